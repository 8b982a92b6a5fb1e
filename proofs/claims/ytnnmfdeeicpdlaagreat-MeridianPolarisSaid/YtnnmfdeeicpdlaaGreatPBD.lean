/- Contracts and plain laws, several texts in one: Pv; Pv2; Pv3; Unq; Sid1; Sid2; Sid3; Sid4; Sid5 -/
import Derived.Test.YtnnmfdeeicpdlaaGreatProg
import Derived.WalkKit
import Derived.WalkSpells
import Derived.WalkLawsBesides
import Derived.Lib.Hide
import Derived.BigQuiet
import Derived.Test.YtnnmfdeeicpdlaaGreatPAA
import Derived.Test.YtnnmfdeeicpdlaaGreatPAC
import Derived.Test.YtnnmfdeeicpdlaaGreatPBC
/- Valid pages: package page's, with its set of names. -/
namespace Go.Proofs.YtnnmfdeeicpdlaaGreat
open Go.RowKit Go.Maps

theorem TksD.open {P : Nat → Prop} {w : World} {v : Value} {l : List TrkV} (h : TksD P w v l) (hl : 0 < l.length) :
    ∃ b o cap, v = .slice (some ⟨b, o, none⟩) l.length cap ∧ (l.length ≤ cap ∧ cap ≤ 9223372036854775807) ∧ b < w.heap.size ∧ P b ∧ ∀ (i : Nat) t, l[i]? = some t → ∃ x : TkW, tkR.wf x ∧ TkD P w x t ∧
      w.cell? ⟨b, o + i * 6, none⟩ = some (.string x.s) ∧ w.cell? ⟨b, o + i * 6 + 1, none⟩ = some (.slice x.ga x.gn x.gc) ∧ w.cell? ⟨b, o + i * 6 + 2, none⟩ = some (.slice x.da x.dn x.dc) ∧
      w.cell? ⟨b, o + i * 6 + 3, none⟩ = some (.int .i64 x.p) ∧ w.cell? ⟨b, o + i * 6 + 4, none⟩ = some (.int .i64 x.q) ∧ w.cell? ⟨b, o + i * 6 + 5, none⟩ = some (.int .i64 x.r) := by
  obtain ⟨ls, h1, h2, h3, h4⟩ := h
  have hwf := h1.wf
  obtain ⟨b, o, cap, rfl, hc, hb, hr⟩ := h1.open (by omega)
  rw [h3] at hc h2 ⊢
  refine ⟨b, o, cap, rfl, hc, hb, h2 b o _ _ rfl hl, fun i t ht => ?_⟩
  have hi : i < ls.length := by rw [h3]; exact (List.getElem?_eq_some_iff.1 ht).1
  have hx : ls[i]? = some ls[i] := List.getElem?_eq_getElem hi
  exact ⟨ls[i], hwf _ (List.getElem_mem hi), h4 i _ t hx ht, hr i _ hx 0 _ rfl, hr i _ hx 1 _ rfl, hr i _ hx 2 _ rfl, hr i _ hx 3 _ rfl, hr i _ hx 4 _ rfl, hr i _ hx 5 _ rfl⟩
theorem TksD.form {P : Nat → Prop} {w : World} {v : Value} {l : List TrkV} (h : TksD P w v l) : ∃ a cap, v = .slice a l.length cap := by
  obtain ⟨ls, h1, h2, h3, h4⟩ := h
  obtain ⟨a, c, e⟩ := h1.form
  exact ⟨a, c, by rw [e, h3]⟩
def fndT (l : List TrkV) (s : ByteArray) : Int := idxR (fun t => nmB t.s s) l 0
def TkOk1 (l : List TrkV) (i : Nat) (t : TrkV) : Prop := trkB t = true ∧ fndT l t.s = (i : Int)
structure PgOk (p : PgV) : Prop where
  dt : dateB p.y p.m p.d = true
  lo : -300000 ≤ numI p.y p.m p.d
  hi : numI p.y p.m p.d ≤ 300000
  len : p.ts.length ≤ 12
  ok : ∀ (i : Nat) t, p.ts[i]? = some t → TkOk1 p.ts i t
end Go.Proofs.YtnnmfdeeicpdlaaGreat
/- The walk of page.Valid. -/
namespace Go.Proofs.YtnnmfdeeicpdlaaGreat
open Go.RowKit Go.Maps

end Go.Proofs.YtnnmfdeeicpdlaaGreat
/- Valid pages in the reference; Find. -/
namespace Go.Proofs.YtnnmfdeeicpdlaaGreat
open Go.RowKit Go.Maps

end Go.Proofs.YtnnmfdeeicpdlaaGreat
/- What a slice reads as is one; closures over pages that are said of the page's value. -/
namespace Go.Proofs.YtnnmfdeeicpdlaaGreat
open Go.RowKit

end Go.Proofs.YtnnmfdeeicpdlaaGreat
/- The hour angle of Aries at an instant (package sidereal). -/
namespace Go.Proofs.YtnnmfdeeicpdlaaGreat
open Go.RowKit

end Go.Proofs.YtnnmfdeeicpdlaaGreat
/- The reference's hour angle of Aries at an instant: the same number. -/
namespace Go.Proofs.YtnnmfdeeicpdlaaGreat
open Go.RowKit

end Go.Proofs.YtnnmfdeeicpdlaaGreat
/- The hour angles of Aries over a time (packages sidereal and almucantarref12). -/
namespace Go.Proofs.YtnnmfdeeicpdlaaGreat
open Go.RowKit

end Go.Proofs.YtnnmfdeeicpdlaaGreat
/- The length of a sidereal day, the interval of a time (package sidereal). -/
namespace Go.Proofs.YtnnmfdeeicpdlaaGreat
open Go.RowKit

end Go.Proofs.YtnnmfdeeicpdlaaGreat
/- Times that are valid (package clock), the interval of a time (package sidereal). -/
namespace Go.Proofs.YtnnmfdeeicpdlaaGreat
open Go.RowKit

end Go.Proofs.YtnnmfdeeicpdlaaGreat

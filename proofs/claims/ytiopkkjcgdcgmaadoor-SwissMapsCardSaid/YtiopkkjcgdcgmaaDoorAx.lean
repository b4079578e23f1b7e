/- Acts. -/
import Derived.Test.YtiopkkjcgdcgmaaDoorRh
namespace Go.Proofs.YtiopkkjcgdcgmaaDoor
open Go.RowKit Go.Rg Go.Nm
structure Act where
  kind : Int
  key : ByteArray
  val : ByteArray
/-- A slice of acts. -/
def Ac (w : World) (v : Value) (l : List Act) : Prop :=
  ∃ p cap, v = .slice p l.length cap ∧ ∀ j a, l[j]? = some a → a.key.size ≤ 140737488351232 ∧ a.val.size ≤ 140737488351232 ∧ ∃ b o, p = some ⟨b, o, none⟩ ∧
    w.cell? ⟨b, o + j * 3, none⟩ = some (.int .i64 a.kind) ∧ w.cell? ⟨b, o + j * 3 + 1, none⟩ = some (.string a.key) ∧ w.cell? ⟨b, o + j * 3 + 2, none⟩ = some (.string a.val)
theorem Ac.ext {w w' : World} {v : Value} {l : List Act} (h : Ac w v l) (hE : Ext w w') : Ac w' v l := by
  obtain ⟨p, cap, rfl, hc⟩ := h
  refine ⟨p, cap, rfl, fun j a hj => ?_⟩
  obtain ⟨h1, h2, b, o, h3, c0, c1, c2⟩ := hc j a hj
  exact ⟨h1, h2, b, o, h3, hE.cell c0, hE.cell c1, hE.cell c2⟩
end Go.Proofs.YtiopkkjcgdcgmaaDoor

/-
  READING ARGUMENTS: a file's head.
-/
import Derived.Test.YtihgjihdmlomaaaDoorArgK
import Derived.Test.YtihgjihdmlomaaaDoorBkA
namespace Go.Proofs.YtihgjihdmlomaaaDoor
open Go.RowKit ArgK
set_option linter.unusedVariables false

/-- A head's cells. -/
def IsHd (cs : List Value) (x : Hd) : Prop := cs = x.cells
def bkHd (x : Hd) : Nat := 7
theorem rd_Head (W : World) : RdT Tryd.prog W 23 IsHd bkHd := by
  have e : Tryd.prog.cellsOf 23 = 6 := by kernel_rfl
  have e1 : Tryd.prog.cellsOf 3 = 1 := by kernel_rfl
  refine RdT.mono (rd_struct Tryd.underlying23 (rdf_cons (rd_int Tryd.underlying3) (rdf_cons (rd_int Tryd.underlying3) (rdf_cons (rd_int Tryd.underlying3) (rdf_cons (rd_int Tryd.underlying3) (rdf_cons (rd_int Tryd.underlying3) (rdf_cons (rd_int Tryd.underlying3) rdf_nil))))))) ?_
  rintro cs ⟨a, t, b, lo, hi, n, u⟩ ⟨hl, h0, h1, h2, h3, h4, h5, _⟩
  simp only [e1] at h0 h1 h2 h3 h4 h5
  rw [e] at hl
  match cs, hl with
  | [c0, c1, c2, c3, c4, c5], _ =>
    simp at h0 h1 h2 h3 h4 h5
    exact ⟨⟨a, t, b, lo, hi, n⟩, by rw [h0.1, h1.1, h2.1, h3.1, h4.1, h5.1]; rfl, by show 7 ≤ 1 + (1 + (1 + (1 + (1 + (1 + 0))))) + 1; omega⟩
end Go.Proofs.YtihgjihdmlomaaaDoor

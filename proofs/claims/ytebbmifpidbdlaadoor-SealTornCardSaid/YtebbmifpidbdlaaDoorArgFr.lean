/-
  READING ARGUMENTS: frames.
-/
import Derived.Test.YtebbmifpidbdlaaDoorArgK
import Derived.Test.YtebbmifpidbdlaaDoorProg
namespace Go.Proofs.YtebbmifpidbdlaaDoor
open Go.RowKit ArgK
set_option linter.unusedVariables false

/-- A frame's cells: kind, payload, place. -/
def IsFramed (cs : List Value) (x : Int × ByteArray × Int) : Prop := cs = [.int .i64 x.1, .string x.2.1, .int .i64 x.2.2] ∧ (Lit.int .i64 x.1).wf = true ∧ x.2.1.size ≤ 140737488351232 ∧ (Lit.int .i64 x.2.2).wf = true
def bkFramed (x : Int × ByteArray × Int) : Nat := x.2.1.size + 4
theorem rd_Framed (W : World) : RdT Tryd.prog W 51 IsFramed bkFramed := by
  have e : Tryd.prog.cellsOf 51 = 3 := by kernel_rfl
  have e1 : Tryd.prog.cellsOf 3 = 1 := by kernel_rfl
  have e2 : Tryd.prog.cellsOf 9 = 1 := by kernel_rfl
  refine RdT.mono (rd_struct Tryd.underlying51 (rdf_cons (rd_int Tryd.underlying3) (rdf_cons (rd_string Tryd.underlying9) (rdf_cons (rd_int Tryd.underlying3) rdf_nil)))) ?_
  rintro cs ⟨k, s, a, u⟩ ⟨hl, h0, h1, h2, _⟩
  simp only [e1, e2] at h0 h1 h2
  rw [e] at hl
  match cs, hl with
  | [c0, c1, c2], _ =>
    simp at h0 h1 h2
    exact ⟨(k, s, a), ⟨by rw [h0.1, h1.1, h2.1], h0.2, h1.2, h2.2⟩, by show s.size + 4 ≤ 1 + (s.size + 1 + (1 + 0)) + 1; omega⟩
end Go.Proofs.YtebbmifpidbdlaaDoor

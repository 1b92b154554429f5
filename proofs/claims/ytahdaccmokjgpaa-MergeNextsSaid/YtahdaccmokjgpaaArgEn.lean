/-
  READING ARGUMENTS: entries.
-/
import Derived.Test.YtahdaccmokjgpaaArgK
import Derived.Test.YtahdaccmokjgpaaEnt
namespace Go.Proofs.Ytahdaccmokjgpaa
open Go.RowKit ArgK
set_option linter.unusedVariables false

/-- An entry's cells. -/
def IsEnt (cs : List Value) (x : Ent) : Prop := cs = x.cells ∧ (Lit.int .i64 x.v).wf = true ∧ x.c.size ≤ 140737488351232 ∧ (Lit.int .i64 x.i).wf = true ∧ (Lit.int .i64 x.s).wf = true
def bkEnt (x : Ent) : Nat := x.c.size + 6
theorem rd_Entry (W : World) : RdT Try.prog W 24 IsEnt bkEnt := by
  have e : Try.prog.cellsOf 24 = 5 := by kernel_rfl
  have e1 : Try.prog.cellsOf 3 = 1 := by kernel_rfl
  have e2 : Try.prog.cellsOf 9 = 1 := by kernel_rfl
  have e3 : Try.prog.cellsOf 4 = 1 := by kernel_rfl
  refine RdT.mono (rd_struct Try.underlying24 (rdf_cons (rd_int Try.underlying3) (rdf_cons (rd_string Try.underlying9) (rdf_cons (rd_int Try.underlying3) (rdf_cons (rd_int Try.underlying3) (rdf_cons (rd_bool Try.underlying4) rdf_nil)))))) ?_
  rintro cs ⟨v, c, i, s, d, u⟩ ⟨hl, h0, h1, h2, h3, h4, _⟩
  simp only [e1, e2, e3] at h0 h1 h2 h3 h4
  rw [e] at hl
  match cs, hl with
  | [c0, c1, c2, c3, c4], _ =>
    simp at h0 h1 h2 h3 h4
    exact ⟨⟨v, c, i, s, d⟩, ⟨by rw [h0.1, h1.1, h2.1, h3.1, h4]; rfl, h0.2, h1.2, h2.2, h3.2⟩, by show c.size + 6 ≤ 1 + (c.size + 1 + (1 + (1 + (1 + 0)))) + 1; omega⟩
end Go.Proofs.Ytahdaccmokjgpaa

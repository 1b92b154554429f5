/-
  READING ARGUMENTS: requests, replies, hits.
-/
import Derived.Test.YtabhjkaheghbhaaArgK
namespace Go.Proofs.Ytabhjkaheghbhaa
open Go.RowKit ArgK
set_option linter.unusedVariables false

structure Rqv where
  op : Int
  id : Int
  c : ByteArray
  k : Int
  r : Int
/-- A request's cells. -/
def IsRq (cs : List Value) (x : Rqv) : Prop := cs = [.int .i64 x.op, .int .i64 x.id, .string x.c, .int .i64 x.k, .int .i64 x.r] ∧ (Lit.int .i64 x.op).wf = true ∧ (Lit.int .i64 x.id).wf = true ∧ x.c.size ≤ 140737488351232 ∧ (Lit.int .i64 x.k).wf = true ∧ (Lit.int .i64 x.r).wf = true
def bkRq (x : Rqv) : Nat := x.c.size + 6
theorem rd_Request (W : World) : RdT Try.prog W 24 IsRq bkRq := by
  have e : Try.prog.cellsOf 24 = 5 := by kernel_rfl
  have e1 : Try.prog.cellsOf 3 = 1 := by kernel_rfl
  have e2 : Try.prog.cellsOf 9 = 1 := by kernel_rfl
  refine RdT.mono (rd_struct Try.underlying24 (rdf_cons (rd_int Try.underlying3) (rdf_cons (rd_int Try.underlying3) (rdf_cons (rd_string Try.underlying9) (rdf_cons (rd_int Try.underlying3) (rdf_cons (rd_int Try.underlying3) rdf_nil)))))) ?_
  rintro cs ⟨op, id, c, k, r, u⟩ ⟨hl, h0, h1, h2, h3, h4, _⟩
  simp only [e1, e2] at h0 h1 h2 h3 h4
  rw [e] at hl
  match cs, hl with
  | [c0, c1, c2, c3, c4], _ =>
    simp at h0 h1 h2 h3 h4
    exact ⟨⟨op, id, c, k, r⟩, ⟨by rw [h0.1, h1.1, h2.1, h3.1, h4.1], h0.2, h1.2, h2.2, h3.2, h4.2⟩, by show c.size + 6 ≤ 1 + (1 + (c.size + 1 + (1 + (1 + 0)))) + 1; omega⟩
end Go.Proofs.Ytabhjkaheghbhaa

/-
  READING ARGUMENTS: replies.
-/
import Derived.Test.YtabhjkaheghbhaaArgHit
namespace Go.Proofs.Ytabhjkaheghbhaa
open Go.RowKit ArgK
set_option linter.unusedVariables false

structure Rpv where
  code : Int
  n : Int
  t : ByteArray
  z : List Hv
/-- A reply's cells. -/
def IsRp (W : World) (cs : List Value) (x : Rpv) : Prop := ∃ v, cs = [.int .i64 x.code, .int .i64 x.n, .string x.t, v] ∧ IsSl W 3 32 IsHit [v] x.z ∧ (Lit.int .i64 x.code).wf = true ∧ (Lit.int .i64 x.n).wf = true ∧ x.t.size ≤ 140737488351232
def bkRp (x : Rpv) : Nat := x.t.size + (x.z.map bkHit).sum + 5
theorem rd_Reply (W : World) : RdT Try.prog W 33 (IsRp W) bkRp := by
  have e : Try.prog.cellsOf 33 = 4 := by kernel_rfl
  have e0 : Try.prog.cellsOf 25 = 1 := by kernel_rfl
  have e1 : Try.prog.cellsOf 3 = 1 := by kernel_rfl
  have e2 : Try.prog.cellsOf 9 = 1 := by kernel_rfl
  have e3 : Try.prog.cellsOf 31 = 1 := by kernel_rfl
  refine RdT.mono (rd_struct Try.underlying33 (rdf_cons (rd_int Try.underlying25) (rdf_cons (rd_int Try.underlying3) (rdf_cons (rd_string Try.underlying9) (rdf_cons (rd_slice (size := 3) (bytes := 32) Try.underlying31 (by kernel_rfl) (by kernel_rfl) (rd_Hit W)) rdf_nil))))) ?_
  rintro cs ⟨c, n, t, z, u⟩ ⟨hl, h0, h1, h2, h3, _⟩
  simp only [e0, e1, e2, e3] at h0 h1 h2 h3
  rw [e] at hl
  match cs, hl with
  | [c0, c1, c2, c3], _ =>
    simp at h0 h1 h2 h3
    exact ⟨⟨c, n, t, z⟩, ⟨c3, by rw [h0.1, h1.1, h2.1], h3, h0.2, h1.2, h2.2⟩, by show t.size + (z.map bkHit).sum + 5 ≤ 1 + (1 + (t.size + 1 + ((z.map bkHit).sum + 1 + 0))) + 1; omega⟩
end Go.Proofs.Ytabhjkaheghbhaa

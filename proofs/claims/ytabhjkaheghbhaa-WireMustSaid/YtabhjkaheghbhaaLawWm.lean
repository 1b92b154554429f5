/-
  THE LAW WireMust.
-/
import Derived.Test.YtabhjkaheghbhaaMustA
import Derived.Test.YtabhjkaheghbhaaMustB
import Derived.Test.YtabhjkaheghbhaaMustC
import Derived.Test.YtabhjkaheghbhaaMustD
import Derived.Test.YtabhjkaheghbhaaMustE
namespace Go.Proofs.Ytabhjkaheghbhaa
open Go.RowKit ArgK
set_option linter.unusedVariables false

theorem WireMust_walk (a0 : Int) (w0 : (Lit.int .i64 a0).wf = true) (a1 : Int) (w1 : (Lit.int .i64 a1).wf = true) (a2 : Int) (w2 : (Lit.int .i64 a2).wf = true) (a3 : Int) (w3 : (Lit.int .i64 a3).wf = true) (a4 : ByteArray) (s4 : a4.size ≤ 140737488351232) (a5 : Int) (w5 : (Lit.int .i64 a5).wf = true) (a6 : ByteArray) (s6 : a6.size ≤ 140737488351232) (a7 : Int) (w7 : (Lit.int .i64 a7).wf = true) (v : Value) (z : List Hv) (w : World) (h : IsSl w 3 32 IsHit [v] z) :
    Calls Try.prog 10 #[.int .i64 a0, .int .i64 a1, .int .i64 a2, .int .i64 a3, .string a4, .int .i64 a5, .string a6, .int .i64 a7, v] w fun e w' => e = .returned (.bool true) ∧ Below w.heap.size w w' := by
  obtain ⟨hz, p, cap, rfl, hp, _⟩ := hits_of_arg h
  have hz2 : z.length ≤ 4398046510976 := by omega
  obtain ⟨u, hu⟩ : ∃ u, IntKind.u64.wrap a0 = u := ⟨_, rfl⟩
  have hub : 0 ≤ u := by rw [← hu, IntKind.wrap_u64]; omega
  have hc : u % 9 = 0 ∨ u % 9 = 1 ∨ u % 9 = 2 ∨ u % 9 = 3 ∨ u % 9 = 4 ∨ u % 9 = 5 ∨ u % 9 = 6 ∨ u % 9 = 7 ∨ u % 9 = 8 := by omega
  rcases hc with ht | ht | ht | ht | ht | ht | ht | ht | ht
  · exact must_1 a0 a1 a2 a3 a4 s4 a5 a6 s6 a7 p cap z hz2 w hp u hu ht hub
  · exact must_2 a0 a1 a2 a3 a4 s4 a5 a6 s6 a7 p cap z hz2 w hp u hu ht hub
  · exact must_3 a0 a1 a2 a3 a4 s4 a5 a6 s6 a7 p cap z hz2 w hp u hu ht hub
  · exact must_4 a0 a1 a2 a3 a4 s4 a5 a6 s6 a7 p cap z hz2 w hp u hu ht hub
  · exact must_5 a0 a1 a2 a3 a4 s4 a5 a6 s6 a7 p cap z hz2 w hp u hu ht hub
  · exact must_6 a0 a1 a2 a3 a4 s4 a5 a6 s6 a7 p cap z hz2 w hp u hu ht hub
  · exact must_7 a0 a1 a2 a3 a4 s4 a5 a6 s6 a7 p cap z hz2 w hp u hu ht hub
  · exact must_8 a0 a1 a2 a3 a4 s4 a5 a6 s6 a7 p cap z hz2 w hp u hu ht hub
  · exact must_9 a0 a1 a2 a3 a4 s4 a5 a6 s6 a7 p cap z hz2 w hp u hu ht hub
end Go.Proofs.Ytabhjkaheghbhaa

/-
  THE LAW WireAsk.
-/
import Derived.Test.YtabhjkaheghbhaaAskX
import Derived.Test.YtabhjkaheghbhaaAskR
import Derived.Test.YtabhjkaheghbhaaArgRq
namespace Go.Proofs.Ytabhjkaheghbhaa
open Go.RowKit
set_option linter.unusedVariables false

set_option maxRecDepth 100000 in
set_option maxHeartbeats 1000000 in
theorem WireAsk_walk (sa0 : Array Value) (z0 : Rqv) (w : World) (h0 : IsRq sa0.toList z0) :
    Calls Try.prog 7 #[.agg sa0] w fun e w' => e = .returned (.bool true) ∧ Below w.heap.size w w' := by
  obtain ⟨op, id, c, k, rr⟩ := z0
  obtain ⟨h1, _, _, hc, _, _⟩ := h0
  obtain rfl : sa0 = #[.int .i64 op, .int .i64 id, .string c, .int .i64 k, .int .i64 rr] := Array.toList_inj.1 h1
  simp only at hc
  clear h1
  have A1 := Lib.hid (fun W => Ask_calls op id c k rr hc W)
  have A2 := Lib.hid (fun W => rAsk_calls op id c k rr hc W)
  generalize (⟨(askOut op id c k rr).1.toArray⟩ : ByteArray) = s at A1 A2
  generalize (askOut op id c k rr).2 = e at A1 A2
  have HBq := Lib.hid ((Below.refl w.heap.size w).alloc (Nat.le_refl _) (.cells #[.int .i64 op, .int .i64 id, .string c, .int .i64 k, .int .i64 rr] 24))
  have HQ := Lib.hid (rq_box w op id c k rr)
  go_enter Try.func7, Try.ntmps7
  go_wp2_with fail
  refine (A1.out _).mono ?_
  rintro x w1 ⟨rfl, k1⟩
  have HQ1 := Lib.hid (HQ.out.of (k1.block _ HQ.out.lt))
  have HB1 := Lib.hid (HBq.out.trans (k1.mono (Nat.le_of_lt HQ.out.lt)))
  obtain ⟨q0, q1, q2, q3, q4, _⟩ := HQ1.out.cells
  clear k1 HQ HBq
  go_wp2_with fail
  refine (A2.out _).mono ?_
  rintro x w2 ⟨rfl, k2⟩
  have HB2 := Lib.hid (HB1.out.trans (k2.mono (Nat.le_of_lt HQ1.out.lt)))
  clear k2 q0 q1 q2 q3 q4
  go_wp2
  go_ret
  exact ⟨rfl, HB2.out⟩
end Go.Proofs.Ytabhjkaheghbhaa

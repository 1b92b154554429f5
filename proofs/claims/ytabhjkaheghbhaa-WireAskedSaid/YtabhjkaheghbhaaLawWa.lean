/-
  THE LAW WireAsked.
-/
import Derived.Test.YtabhjkaheghbhaaRefA
import Derived.Laws.StructEq
namespace Go.Proofs.Ytabhjkaheghbhaa
open Go.RowKit
set_option linter.unusedVariables false

theorem rq_shape (b : ByteArray) : ∃ op id c k rr, (askedR b).1 = #[.int .i64 op, .int .i64 id, .string c, .int .i64 k, .int .i64 rr] := by
  unfold askedR rqC
  split
  · exact ⟨_, _, _, _, _, rfl⟩
  · split
    · exact ⟨_, _, _, _, _, rfl⟩
    · exact ⟨_, _, _, _, _, rfl⟩
set_option maxRecDepth 100000 in
set_option maxHeartbeats 1000000 in
theorem WireAsked_walk (a0 : ByteArray) (s0 : a0.size ≤ 140737488351232) (w : World) : Calls Try.prog 4 #[.string a0] w fun e w' => e = .returned (.bool true) ∧ Below w.heap.size w w' := by
  have A1 := Lib.hid (fun W => Asked_calls a0 (by omega) W)
  have A2 := Lib.hid (fun W => rAsked_calls a0 (by omega) W)
  obtain ⟨op, id, c, k, rr, hR⟩ := rq_shape a0
  generalize (askedR a0).2 = e at A1 A2
  rw [hR] at A1 A2
  have hQ1 : Try.prog.eqGuardType Try.prog.depth 24 = false := by kernel_rfl
  have hFo : Try.prog.underlying 24 = some (.struct (Try.prog.fieldsOf 24)) := by kernel_rfl
  have hSt : Try.prog.stoodInHeld 24 = false := by kernel_rfl
  have hE : ∀ W : World, (binOp .eql 24 (.agg #[.int .i64 op, .int .i64 id, .string c, .int .i64 k, .int .i64 rr]) (.agg #[.int .i64 op, .int .i64 id, .string c, .int .i64 k, .int .i64 rr])).run Try.prog W = .ok (.bool true) W := by
    intro W
    rw [run_eql_struct, run_equalIn_agg W _ _ _ _ hFo hSt]
    simp only [Program.fieldsOf, Try.underlying24]
    simp [Op.eqFields, part, run_equalIn_int, run_equalIn_string, Try.underlying3, Try.underlying9]
  clear hR
  go_enter Try.func4, Try.ntmps4
  go_wp2_with fail
  refine (A1.out _).mono ?_
  rintro x w1 ⟨rfl, hb1⟩
  go_wp2_with fail
  refine (A2.out _).mono ?_
  rintro x w2 ⟨rfl, hb2⟩
  have HQ := (Rq.of (Rq.new w1 op id c k rr) (hb2.block _ (by simp))).alloc (.cells #[.int .i64 op, .int .i64 id, .string c, .int .i64 k, .int .i64 rr] 24)
  have HP := Rq.new w2 op id c k rr
  obtain ⟨q0, q1, q2, q3, q4, _⟩ := HQ.cells
  obtain ⟨p0, p1, p2, p3, p4, _⟩ := HP.cells
  have hsz := hb1.size
  have hsz2 := hb2.size
  simp only [World.size_alloc] at hsz2
  have HB := Lib.hid (((hb1.alloc hsz (.cells #[.int .i64 op, .int .i64 id, .string c, .int .i64 k, .int .i64 rr] 24)).trans (hb2.mono (by rw [World.size_alloc]; omega))).alloc (by omega) (.cells #[.int .i64 op, .int .i64 id, .string c, .int .i64 k, .int .i64 rr] 24))
  clear HQ HP hsz hsz2
  go_wp2
  go_ret
  exact ⟨rfl, HB.out⟩
end Go.Proofs.Ytabhjkaheghbhaa

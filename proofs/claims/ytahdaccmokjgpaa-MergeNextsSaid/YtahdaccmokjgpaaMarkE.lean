/-
  MARKS: entries that no list has; results that lie in cells.
-/
import Derived.Test.YtahdaccmokjgpaaSorted
import Derived.Test.YtahdaccmokjgpaaArgEn
namespace Go.Proofs.Ytahdaccmokjgpaa
open Go.RowKit ArgK
set_option linter.unusedVariables false

theorem entinfo : (Try.prog.info? 24).map (fun i => (i.zero, i.size, i.bytes)) = some (some (.agg #[.int .i64 0, .string ⟨#[]⟩, .int .i64 0, .int .i64 0, .bool false]), 5, 48) := by kernel_rfl
theorem results_cell1 {fn : Func} {p : Tmp} {ty : TypeId} (h : fn.results = #[.cell p ty]) (tmps : Array Value) (P : Program) (w : World) :
    (results fn tmps).run P w = ((asAddr (tmps.getD p undef)).run P w).andThen fun a w₁ => (loadVar ty a).run P w₁ := by
  simp only [results, h]
  simp [Sem.run_bind, Result.andThen]
/-- A mark. -/
def markE (n : Int) : Ent := ⟨-n, ⟨#[109, 97, 114, 107]⟩, -n, -n, false⟩
set_option maxRecDepth 100000 in
set_option maxHeartbeats 1000000 in
theorem mark_calls (n : Int) (h1 : -4611686018427387904 < n) (h2 : n < 4611686018427387904) (w : World) : Calls Try.prog 12 #[.int .i64 n] w fun e w' => e = .returned (markE n).val ∧ Below w.heap.size w w' := by
  have hw : IntKind.i64.wrap (-n) = -n := by rw [IntKind.wrap_i64]; omega
  unfold markE Ent.val
  go_enter Try.func12, Try.ntmps12
  have hbu : ∀ W : World, (Instr.build 24 #[(0, .int .i64 (-n)), (1, .string ⟨#[109, 97, 114, 107]⟩), (2, .int .i64 (-n)), (3, .int .i64 (-n))]).run Try.prog W = .ok (.agg #[.int .i64 (-n), .string ⟨#[109, 97, 114, 107]⟩, .int .i64 (-n), .int .i64 (-n), .bool false]) W :=
    fun W => run_build W _ _ _ (by kernel_rfl)
  go_wp2
  refine bodyPost_ret (v := .agg #[.int .i64 (-n), .string ⟨#[109, 97, 114, 107]⟩, .int .i64 (-n), .int .i64 (-n), .bool false]) ?_ rfl ?_
  · rw [results_cell1 rfl]
    go_simp
  · exact ⟨rfl, (Below.refl _ w).alloc (Nat.le_refl _) _⟩


theorem results_cell_tmp2 {fn : Func} {p u v : Tmp} {ty : TypeId} (h : fn.results = #[.cell p ty, .tmp u, .tmp v]) (tmps : Array Value) (P : Program) (w : World) :
    (results fn tmps).run P w = ((asAddr (tmps.getD p undef)).run P w).andThen fun a w₁ => ((loadVar ty a).run P w₁).andThen fun x w₂ => .ok (.tuple #[x, tmps.getD u undef, tmps.getD v undef]) w₂ := by
  simp only [results, h]
  simp [Sem.run_bind, Result.andThen]
end Go.Proofs.Ytahdaccmokjgpaa

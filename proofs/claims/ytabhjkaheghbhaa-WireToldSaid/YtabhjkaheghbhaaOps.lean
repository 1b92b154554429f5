/-
  WALK: the table of operations.
-/
import Derived.Test.YtabhjkaheghbhaaMem
import Derived.LoopN
import Derived.Laws.EntriesVeiled
import Derived.RegionTactic
import Derived.Deep.Cut
import Derived.Deep.WholeRow
import Derived.Lib.ItoaWalk
namespace Go.Proofs.Ytabhjkaheghbhaa
open Go.RowKit
set_option linter.unusedVariables false

theorem opres_cell1 {fn : Func} {p : Tmp} {ty : TypeId} (h : fn.results = #[.cell p ty]) (tmps : Array Value) (P : Program) (w : World) :
    (results fn tmps).run P w = ((asAddr (tmps.getD p undef)).run P w).andThen fun a w₁ => (loadVar ty a).run P w₁ := by
  simp only [results, h]
  simp [Sem.run_bind, Result.andThen]
theorem opinfo : (Try.prog.info? 68).map (·.size) = some 60 := by kernel_rfl
/-- The table as it begins. -/
def opsA : Array Value := #[.nilFunc, .nilFunc, .nilFunc, .nilFunc, .nilFunc, .nilFunc, .nilFunc, .nilFunc, .nilFunc, .nilFunc, .nilFunc, .nilFunc, .nilFunc, .nilFunc, .nilFunc, .nilFunc, .nilFunc, .nilFunc, .nilFunc, .nilFunc, .nilFunc, .nilFunc, .nilFunc, .nilFunc, .nilFunc, .nilFunc, .nilFunc, .nilFunc, .nilFunc, .nilFunc, .nilFunc, .nilFunc, .nilFunc, .nilFunc, .nilFunc, .nilFunc, .nilFunc, .nilFunc, .nilFunc, .nilFunc, .nilFunc, .nilFunc, .func (.func 48) #[] #[], .func (.func 49) #[] #[], .func (.func 50) #[] #[], .func (.func 51) #[] #[], .func (.func 52) #[] #[], .func (.func 53) #[] #[], .nilFunc, .nilFunc, .nilFunc, .nilFunc, .nilFunc, .nilFunc, .func (.func 48) #[] #[], .func (.func 49) #[] #[], .func (.func 50) #[] #[], .func (.func 51) #[] #[], .func (.func 52) #[] #[], .func (.func 53) #[] #[]]
/-- The table. -/
def opsT : Array Value := #[.nilFunc, .nilFunc, .nilFunc, .nilFunc, .nilFunc, .nilFunc, .func (.func 54) #[] #[], .func (.func 56) #[] #[], .func (.func 61) #[] #[], .func (.func 51) #[] #[], .func (.func 52) #[] #[], .func (.func 53) #[] #[], .func (.func 62) #[] #[], .func (.func 63) #[] #[], .func (.func 64) #[] #[], .func (.func 51) #[] #[], .func (.func 52) #[] #[], .func (.func 53) #[] #[], .func (.func 62) #[] #[], .func (.func 63) #[] #[], .func (.func 64) #[] #[], .func (.func 65) #[] #[], .func (.func 66) #[] #[], .func (.func 67) #[] #[], .func (.func 71) #[] #[], .func (.func 72) #[] #[], .func (.func 73) #[] #[], .func (.func 68) #[] #[], .func (.func 69) #[] #[], .func (.func 70) #[] #[], .func (.func 74) #[] #[], .func (.func 75) #[] #[], .func (.func 76) #[] #[], .func (.func 68) #[] #[], .func (.func 69) #[] #[], .func (.func 70) #[] #[], .func (.func 48) #[] #[], .func (.func 49) #[] #[], .func (.func 50) #[] #[], .func (.func 77) #[] #[], .func (.func 78) #[] #[], .func (.func 79) #[] #[], .func (.func 48) #[] #[], .func (.func 49) #[] #[], .func (.func 50) #[] #[], .func (.func 51) #[] #[], .func (.func 52) #[] #[], .func (.func 53) #[] #[], .func (.func 48) #[] #[], .func (.func 49) #[] #[], .func (.func 50) #[] #[], .func (.func 77) #[] #[], .func (.func 78) #[] #[], .func (.func 79) #[] #[], .func (.func 48) #[] #[], .func (.func 49) #[] #[], .func (.func 50) #[] #[], .func (.func 51) #[] #[], .func (.func 52) #[] #[], .func (.func 53) #[] #[]]
theorem opsA_size : opsA.size = 60 := rfl
theorem opsT_size : opsT.size = 60 := rfl
theorem opsA_one : opsA.all (·.oneCell') = true := by decide +kernel
theorem opsT_one : opsT.all (·.oneCell') = true := by decide +kernel

set_option maxRecDepth 100000 in
set_option maxHeartbeats 1000000 in
theorem operations_calls (w : World) : Calls Try.prog 24 #[] w fun e w' => e = .returned (.agg opsT) ∧ Below w.heap.size w w' := by
  go_enter Try.func24, Try.ntmps24
  go_upto_region 2 with fail
  go_name_world W1 hW1
  have hs1 : W1.heap.size = w.heap.size + 1 + 1 := by rw [← hW1]; simp
  have hq0 : W1.cell? ⟨w.heap.size + 1, 0, none⟩ = some (.func (.func 48) #[] #[]) := by rw [← hW1]; simp
  have hq1 : W1.cell? ⟨w.heap.size + 1, 1, none⟩ = some (.func (.func 49) #[] #[]) := by rw [← hW1]; simp
  have hq2 : W1.cell? ⟨w.heap.size + 1, 2, none⟩ = some (.func (.func 50) #[] #[]) := by rw [← hW1]; simp
  have hq3 : W1.cell? ⟨w.heap.size + 1, 3, none⟩ = some (.func (.func 51) #[] #[]) := by rw [← hW1]; simp
  have hq4 : W1.cell? ⟨w.heap.size + 1, 4, none⟩ = some (.func (.func 52) #[] #[]) := by rw [← hW1]; simp
  have hq5 : W1.cell? ⟨w.heap.size + 1, 5, none⟩ = some (.func (.func 53) #[] #[]) := by rw [← hW1]; simp
  have hz : W1.heap[w.heap.size]? = some (.cells (Array.replicate 60 .nilFunc) 68 (0, 0)) := by rw [← hW1, Below.heap_alloc _ _ _ (by simp)]; exact heap_alloc_last w _
  have hbl : Below w.heap.size w W1 := by rw [← hW1]; exact ((Below.refl _ w).alloc (Nat.le_refl _) _).alloc (by simp) _
  clear hW1
  have hp0 : ∀ o, (W1.alloc o).cell? ⟨w.heap.size + 1, 0, none⟩ = some (.func (.func 48) #[] #[]) := fun o => by rw [World.cell?_alloc_lt _ _ _ (by simp [hs1])]; exact hq0
  have hp1 : ∀ o, (W1.alloc o).cell? ⟨w.heap.size + 1, 1, none⟩ = some (.func (.func 49) #[] #[]) := fun o => by rw [World.cell?_alloc_lt _ _ _ (by simp [hs1])]; exact hq1
  have hp2 : ∀ o, (W1.alloc o).cell? ⟨w.heap.size + 1, 2, none⟩ = some (.func (.func 50) #[] #[]) := fun o => by rw [World.cell?_alloc_lt _ _ _ (by simp [hs1])]; exact hq2
  have hp3 : ∀ o, (W1.alloc o).cell? ⟨w.heap.size + 1, 3, none⟩ = some (.func (.func 51) #[] #[]) := fun o => by rw [World.cell?_alloc_lt _ _ _ (by simp [hs1])]; exact hq3
  have hp4 : ∀ o, (W1.alloc o).cell? ⟨w.heap.size + 1, 4, none⟩ = some (.func (.func 52) #[] #[]) := fun o => by rw [World.cell?_alloc_lt _ _ _ (by simp [hs1])]; exact hq4
  have hp5 : ∀ o, (W1.alloc o).cell? ⟨w.heap.size + 1, 5, none⟩ = some (.func (.func 53) #[] #[]) := fun o => by rw [World.cell?_alloc_lt _ _ _ (by simp [hs1])]; exact hq5
  have hr0 : ∀ o p, ((W1.alloc o).alloc p).cell? ⟨w.heap.size + 1, 0, none⟩ = some (.func (.func 48) #[] #[]) := fun o p => by rw [World.cell?_alloc_lt _ _ _ (by simp [hs1])]; exact hp0 o
  have hr1 : ∀ o p, ((W1.alloc o).alloc p).cell? ⟨w.heap.size + 1, 1, none⟩ = some (.func (.func 49) #[] #[]) := fun o p => by rw [World.cell?_alloc_lt _ _ _ (by simp [hs1])]; exact hp1 o
  have hr2 : ∀ o p, ((W1.alloc o).alloc p).cell? ⟨w.heap.size + 1, 2, none⟩ = some (.func (.func 50) #[] #[]) := fun o p => by rw [World.cell?_alloc_lt _ _ _ (by simp [hs1])]; exact hp2 o
  have hr3 : ∀ o p, ((W1.alloc o).alloc p).cell? ⟨w.heap.size + 1, 3, none⟩ = some (.func (.func 51) #[] #[]) := fun o p => by rw [World.cell?_alloc_lt _ _ _ (by simp [hs1])]; exact hp3 o
  have hr4 : ∀ o p, ((W1.alloc o).alloc p).cell? ⟨w.heap.size + 1, 4, none⟩ = some (.func (.func 52) #[] #[]) := fun o p => by rw [World.cell?_alloc_lt _ _ _ (by simp [hs1])]; exact hp4 o
  have hr5 : ∀ o p, ((W1.alloc o).alloc p).cell? ⟨w.heap.size + 1, 5, none⟩ = some (.func (.func 53) #[] #[]) := fun o p => by rw [World.cell?_alloc_lt _ _ _ (by simp [hs1])]; exact hp5 o
  have HS1 := Lib.hid hs1
  clear hs1
  refine wp_region_lit ?_
  refine wpList_plain rfl fun K hK => ?_
  go_simp
  refine hK _ _ ?_
  clear hK K
  refine wpList_plain rfl fun K hK => ?_
  go_simp
  refine hK _ _ ?_
  clear hK K
  refine wpList_plain rfl fun K hK => ?_
  go_simp
  refine hK _ _ ?_
  clear hK K
  refine wpList_plain rfl fun K hK => ?_
  go_simp
  refine hK _ _ ?_
  clear hK K
  refine wpList_store_row rfl 68 _ _ rfl W1.heap.size opsA rfl rfl 68 _ (heap_alloc_last _ _) opinfo rfl opsA_one ?_
  rw [World.setRow_alloc_new]
  refine wpList_nil ?_
  unfold opsA
  go_wp2
  refine wp_loop_rounds 3 ?_
  rw [rounds_succ]
  go_wp2
  rw [rounds_succ]
  go_wp2
  rw [rounds_succ]
  go_upto_region 26 with fail
  go_name_world W3 hW3
  have hT : W3.heap[W1.heap.size]? = some (.cells opsT 68 (0, 0)) := by rw [← hW3, Below.heap_alloc _ _ _ (by simp)]; exact heap_alloc_last W1 _
  have hZ : W3.heap[w.heap.size]? = some (.cells (Array.replicate 60 .nilFunc) 68 (0, 0)) := by
    rw [← hW3, Below.heap_alloc _ _ _ (by simp [HS1.out]; omega), Below.heap_alloc _ _ _ (by rw [HS1.out]; omega)]; exact hz
  have hb3 : Below w.heap.size w W3 := by rw [← hW3]; exact (hbl.alloc (by rw [HS1.out]; omega) _).alloc (by simp [HS1.out]; omega) _
  clear hW3 hq0 hq1 hq2 hq3 hq4 hq5 hp0 hp1 hp2 hp3 hp4 hp5 hr0 hr1 hr2 hr3 hr4 hr5 hz hbl
  refine wp_region_lit ?_
  refine wpList_load_row rfl 68 _ rfl W1.heap.size rfl 68 opsT (0, 0) _ hT Try.underlying68 rfl opinfo ?_
  refine wpList_store_row rfl 68 _ _ rfl w.heap.size opsT rfl rfl 68 _ hZ opinfo (by simp [opsT_size]) opsT_one ?_
  refine wpList_nil ?_
  have hE : (W3.setRow w.heap.size opsT).heap[w.heap.size]? = some (.cells opsT 68 (0, 0)) := by simp [World.setRow, Array.getElem?_modify, hZ]
  have hbE : Below w.heap.size w (W3.setRow w.heap.size opsT) := hb3.trans ⟨rfl, rfl, rfl, by simp [World.setRow], fun k hk => by simp [World.setRow, Array.getElem?_modify]; intro h; omega⟩
  generalize W3.setRow w.heap.size opsT = W4 at hE hbE
  simp only [Act.put, List.setIfInBounds_toArray, List.set_cons_zero, List.set_cons_succ]
  go_wp2
  refine bodyPost_ret (v := .agg opsT) ?_ rfl ⟨rfl, hbE⟩
  rw [results_cell_row rfl _ W4 w.heap.size 68 opsT (0, 0) _ rfl hE Try.underlying68 rfl opinfo]
theorem opsAt1 (W : World) : (Instr.index 68 (.agg opsT) (.int .i64 1)).run Try.prog W = .ok (.agg #[.func (.func 54) #[] #[], .func (.func 56) #[] #[], .func (.func 61) #[] #[], .func (.func 51) #[] #[], .func (.func 52) #[] #[], .func (.func 53) #[] #[]]) W := by kernel_rfl
theorem opsAt2 (W : World) : (Instr.index 68 (.agg opsT) (.int .i64 2)).run Try.prog W = .ok (.agg #[.func (.func 62) #[] #[], .func (.func 63) #[] #[], .func (.func 64) #[] #[], .func (.func 51) #[] #[], .func (.func 52) #[] #[], .func (.func 53) #[] #[]]) W := by kernel_rfl
theorem opsAt3 (W : World) : (Instr.index 68 (.agg opsT) (.int .i64 3)).run Try.prog W = .ok (.agg #[.func (.func 62) #[] #[], .func (.func 63) #[] #[], .func (.func 64) #[] #[], .func (.func 65) #[] #[], .func (.func 66) #[] #[], .func (.func 67) #[] #[]]) W := by kernel_rfl
theorem opsAt4 (W : World) : (Instr.index 68 (.agg opsT) (.int .i64 4)).run Try.prog W = .ok (.agg #[.func (.func 71) #[] #[], .func (.func 72) #[] #[], .func (.func 73) #[] #[], .func (.func 68) #[] #[], .func (.func 69) #[] #[], .func (.func 70) #[] #[]]) W := by kernel_rfl
theorem opsAt5 (W : World) : (Instr.index 68 (.agg opsT) (.int .i64 5)).run Try.prog W = .ok (.agg #[.func (.func 74) #[] #[], .func (.func 75) #[] #[], .func (.func 76) #[] #[], .func (.func 68) #[] #[], .func (.func 69) #[] #[], .func (.func 70) #[] #[]]) W := by kernel_rfl
theorem opsAt6 (W : World) : (Instr.index 68 (.agg opsT) (.int .i64 6)).run Try.prog W = .ok (.agg #[.func (.func 48) #[] #[], .func (.func 49) #[] #[], .func (.func 50) #[] #[], .func (.func 77) #[] #[], .func (.func 78) #[] #[], .func (.func 79) #[] #[]]) W := by kernel_rfl
theorem opsAt7 (W : World) : (Instr.index 68 (.agg opsT) (.int .i64 7)).run Try.prog W = .ok (.agg #[.func (.func 48) #[] #[], .func (.func 49) #[] #[], .func (.func 50) #[] #[], .func (.func 51) #[] #[], .func (.func 52) #[] #[], .func (.func 53) #[] #[]]) W := by kernel_rfl
theorem opsAt8 (W : World) : (Instr.index 68 (.agg opsT) (.int .i64 8)).run Try.prog W = .ok (.agg #[.func (.func 48) #[] #[], .func (.func 49) #[] #[], .func (.func 50) #[] #[], .func (.func 77) #[] #[], .func (.func 78) #[] #[], .func (.func 79) #[] #[]]) W := by kernel_rfl
theorem opsAt9 (W : World) : (Instr.index 68 (.agg opsT) (.int .i64 9)).run Try.prog W = .ok (.agg #[.func (.func 48) #[] #[], .func (.func 49) #[] #[], .func (.func 50) #[] #[], .func (.func 51) #[] #[], .func (.func 52) #[] #[], .func (.func 53) #[] #[]]) W := by kernel_rfl
end Go.Proofs.Ytabhjkaheghbhaa

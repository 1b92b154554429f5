/-
  WALK: a hit put on a pile.
-/
import Derived.Test.YtmfanldekjkbiaaDoorPile
import Derived.StillTailTactics
import Derived.BigQuiet
import Derived.Deep.QuietTactic
namespace Go.Proofs.YtmfanldekjkbiaaDoor
open Go.RowKit
set_option linter.unusedVariables false

/-- What put leaves. -/
def PutPost (w : World) (pb mb : Nat) (v : Value) (L : List Hv) (h : Hv) (e : Ending) (w' : World) : Prop :=
  e = .returned (.bool (decide (h ∉ L))) ∧ ∃ v' L', PileIs w' pb mb v' L' ∧ HeapH L' ∧ L'.Perm (if h ∈ L then L else h :: L) ∧ Fr w w' [some pb, some mb, v.ownBlock] ∧ (v'.ownBlock = v.ownBlock ∨ ∃ g, v'.ownBlock = some g ∧ w.heap.size ≤ g)

set_option maxRecDepth 100000 in
set_option maxHeartbeats 1000000 in
theorem put_there (pb mb : Nat) (v : Value) (L : List Hv) (h : Hv) (hg : GoodH h) (hm : h ∈ L) (hH : HeapH L) (w : World) (hP : PileIs w pb mb v L) :
    Calls Tryd.prog 46 #[.pointer (some ⟨pb, 0, none⟩), h.val] w (PutPost w pb mb v L h) := by
  have HG : Gr w (w.alloc (.cells #[.int .i64 h.d, .int .i64 h.i, .string h.c] 36)) := (Gr.refl w).alloc _
  have hP1 := hP.gr HG
  have b0 := World.alloc_heap_new w (.cells #[.int .i64 h.d, .int .i64 h.i, .string h.c] 36)
  have HPost : ∀ W, Gr (w.alloc (.cells #[.int .i64 h.d, .int .i64 h.i, .string h.c] 36)) W → PutPost w pb mb v L h (.returned (.bool false)) W := fun W hW =>
    ⟨by simp [hm], v, L, hP.gr (HG.trans hW), hH, by rw [if_pos hm], Fr.of_gr (HG.trans hW) _, .inl rfl⟩
  have HQ := Lib.hid HPost
  simp only [Hv.val]
  go_enter Tryd.func46, Tryd.ntmps46
  go_wp2
  generalize w.alloc (.cells #[.int .i64 h.d, .int .i64 h.i, .string h.c] 36) = wb at hP1 b0 HQ ⊢
  obtain ⟨c0, c1, c2, _⟩ := hP1.cells
  have k0 : wb.cell? ⟨w.heap.size, 0, none⟩ = some (.int .i64 h.d) := by simp [World.cell?, b0]
  have k1 : wb.cell? ⟨w.heap.size, 1, none⟩ = some (.int .i64 h.i) := by simp [World.cell?, b0]
  have k2 : wb.cell? ⟨w.heap.size, 2, none⟩ = some (.string h.c) := by simp [World.cell?, b0]
  have c2a : ∀ o, (wb.alloc o).cell? ⟨pb, 2, none⟩ = some (.map (some mb)) := fun o => (World.cell?_alloc_lt _ _ ⟨pb, 2, none⟩ (hP1.lt)).trans c2
  have k0a : ∀ o, (wb.alloc o).cell? ⟨w.heap.size, 0, none⟩ = some (.int .i64 h.d) := fun o => (World.cell?_alloc_lt _ _ ⟨w.heap.size, 0, none⟩ (cell_ltH k0)).trans k0
  have k1a : ∀ o, (wb.alloc o).cell? ⟨w.heap.size, 1, none⟩ = some (.int .i64 h.i) := fun o => (World.cell?_alloc_lt _ _ ⟨w.heap.size, 1, none⟩ (cell_ltH k1)).trans k1
  have k2a : ∀ o, (wb.alloc o).cell? ⟨w.heap.size, 2, none⟩ = some (.string h.c) := fun o => (World.cell?_alloc_lt _ _ ⟨w.heap.size, 2, none⟩ (cell_ltH k2)).trans k2
  have l0 : (Instr.lookup 97 (.map (some mb)) (.agg #[.int .i64 h.d, .int .i64 h.i, .string h.c]) true).run Tryd.prog wb.drew = .ok (.tuple #[.agg #[], .bool true]) wb.drew := by
    have := (hP1.has.of (w' := wb.drew) rfl).look hg
    simp only [hm, decide_true] at this
    exact this
  have l1 : ∀ o, (Instr.lookup 97 (.map (some mb)) (.agg #[.int .i64 h.d, .int .i64 h.i, .string h.c]) true).run Tryd.prog (wb.alloc o).drew = .ok (.tuple #[.agg #[], .bool true]) (wb.alloc o).drew := fun o => by
    have := (hP1.has.of (w' := (wb.alloc o).drew) (Below.heap_alloc _ _ _ hP1.has.lt)).look hg
    simp only [hm, decide_true] at this
    exact this
  clear hP hP1 b0 HG HPost
  go_region
  all_goals trace_state
  all_goals go_wp2
  all_goals go_ret
  all_goals exact HQ.out _ (((Gr.refl _).alloc _).drew)
end Go.Proofs.YtmfanldekjkbiaaDoor

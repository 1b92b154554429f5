/-
  WALK: the document's Sums.
-/
import Derived.Test.YtcdlmjbjpeokfaaDoorSumsRP
import Derived.Deep.DeepCutAuto
import Derived.Deep.RegionHeld3
namespace Go.Proofs.YtcdlmjbjpeokfaaDoor
open Go.RowKit Go.Shelf
set_option linter.unusedVariables false

/-- A part's box. -/
def Pb (w : World) (q : Nat) (x : Int × Int) : Prop := w.heap[q]? = some (.cells #[.int .i64 x.1, .int .i64 x.2] 36 (0, 0))

theorem Pb.cells {w : World} {q : Nat} {x : Int × Int} (h : Pb w q x) : w.cell? ⟨q, 0, none⟩ = some (.int .i64 x.1) ∧ w.cell? ⟨q, 1, none⟩ = some (.int .i64 x.2) ∧ w.frozen? ⟨q, 0, none⟩ = false ∧ w.frozen? ⟨q, 1, none⟩ = false := by
  unfold Pb at h
  simp [World.cell?, World.frozen?, h]

theorem Pb.lt {w : World} {q : Nat} {x : Int × Int} (h : Pb w q x) : q < w.heap.size := cell_ltS h.cells.1

theorem Pb.of {w w' : World} {q : Nat} {x : Int × Int} (h : Pb w q x) (e : w'.heap[q]? = w.heap[q]?) : Pb w' q x := e.trans h

theorem Pb.alloc {w : World} {q : Nat} {x : Int × Int} (h : Pb w q x) (o : Obj) : Pb (w.alloc o) q x := h.of (Below.heap_alloc _ _ _ h.lt)

theorem Pb.new (w : World) (x : Int × Int) : Pb (w.alloc (.cells #[.int .i64 x.1, .int .i64 x.2] 36)) w.heap.size x := heap_lastS w _

theorem Pb.set {w : World} {q : Nat} {x : Int × Int} (h : Pb w q x) : (∀ a, Pb (w.setCell ⟨q, 0, none⟩ (.int .i64 a)) q (a, x.2)) ∧ (∀ a, Pb (w.setCell ⟨q, 1, none⟩ (.int .i64 a)) q (x.1, a)) := by
  unfold Pb at *
  refine ⟨fun a => ?_, fun a => ?_⟩ <;> simp [World.setCell, Array.getElem?_modify, h]

end Go.Proofs.YtcdlmjbjpeokfaaDoor

/-
  SMALL LAWS: blocks that stay as they are.
-/
import Derived.Test.YtcdlmjbjpeokfaaDoorRows2
import Derived.RangeFuncNested
import Derived.RangeFuncBound
import Derived.RangeFuncCalls
import Derived.RangeFuncLeaves
import Derived.Shelf.Abstract
import Derived.Shelf.RegionOpen
import Derived.WalkKit
import Derived.OwnWalkIn
import Derived.TacticsInMore
import Derived.LoopNIn
import Derived.LoopIn
namespace Go.Proofs.YtcdlmjbjpeokfaaDoor
open Go.RowKit
set_option linter.unusedVariables false

def KeepS (gs : List Nat) (W W' : World) : Prop := ∀ g, g ∈ gs → W'.heap[g]? = W.heap[g]?

theorem KeepS.refl (gs : List Nat) (W : World) : KeepS gs W W := fun _ _ => rfl

theorem KeepS.trans {gs : List Nat} {A B C : World} (h : KeepS gs A B) (k : KeepS gs B C) : KeepS gs A C := fun g hg => (k g hg).trans (h g hg)

theorem KeepS.cell {gs : List Nat} {A B : World} (h : KeepS gs A B) {g j : Nat} (hg : g ∈ gs) {v : Value} (hc : A.cell? ⟨g, j, none⟩ = some v) : B.cell? ⟨g, j, none⟩ = some v := (World.cell?_of_block (h g hg)).trans hc

theorem KeepS.put {gs : List Nat} {B : Nat} (hgs : ∀ g, g ∈ gs → g < B) (W : World) (l : Nat) (o o' : Obj) (hl : B ≤ l) (_ : W.heap[l]? = some o) (_ : o.isCells = false) (_ : o.isWalk = false) : KeepS gs W (W.putObj l o') :=
  fun g hg => World.putObj_heap_other (by have := hgs g hg; omega)

theorem KeepS.setCell {gs : List Nat} {W : World} {p : Addr} (h : ∀ g, g ∈ gs → g ≠ p.block) (u : Value) : KeepS gs W (W.setCell p u) := fun g hg => Below.heap_setCell W p u g (h g hg)

theorem KeepS.alloc {gs : List Nat} {W : World} (h : ∀ g, g ∈ gs → g < W.heap.size) (o : Obj) : KeepS gs W (W.alloc o) := fun g hg => Below.heap_alloc W o g (h g hg)

theorem KeepS.below {gs : List Nat} {B : Nat} {W W' : World} (hb : Below B W W') (h : ∀ g, g ∈ gs → g < B) : KeepS gs W W' := fun g hg => hb.block g (h g hg)

theorem cell_ltS {w : World} {p : Addr} {v : Value} (h : w.cell? p = some v) : p.block < w.heap.size := by
  rcases Nat.lt_or_ge p.block w.heap.size with h' | h'
  · exact h'
  · simp [World.cell?, Array.getElem?_eq_none h'] at h

theorem heap_lastS (w : World) (o : Obj) : (w.alloc o).heap[w.heap.size]? = some o := World.alloc_heap_new w o
end Go.Proofs.YtcdlmjbjpeokfaaDoor

/-
  WALK: twins: the lists once more, in new memory, with marks behind them.
-/
import Derived.Test.YtahceakghgmpkaaMovedB
namespace Go.Proofs.Ytahceakghgmpkaa
open Go.RowKit ArgK
set_option linter.unusedVariables false

/-- A LIST OF LISTS of which the outer cells D are cut versions of the rows L. -/
def ListsD (w : World) (B : Nat) (tl te : TypeId) (sz k : Nat) (l : Value) (D L : Nat → Value) (N : Nat → Nat) (X : Nat → List Value) : Prop :=
  w.ownsRow B tl 1 l k ((List.range k).map D) ∧ (∀ j, j < k → w.ownsRow B te sz (L j) (N j) (X j)) ∧ ApartL k L

theorem ListsD.none_ (w : World) (B : Nat) (tl te : TypeId) (sz : Nat) (D L : Nat → Value) (N : Nat → Nat) (X : Nat → List Value) : ListsD w B tl te sz 0 (.slice none 0 0) D L N X :=
  ⟨World.ownsRow_nil _ _ _ _, fun j hj => absurd hj (Nat.not_lt_zero _), fun i j hi => absurd hi (Nat.not_lt_zero _)⟩

section
variable {w w' : World} {B : Nat} {tl te : TypeId} {sz k : Nat} {l va vd : Value} {D L : Nat → Value} {N : Nat → Nat} {X : Nat → List Value}

theorem ListsD.below (h : ListsD w B tl te sz k l D L N X) (hb : Below w.heap.size w w') : ListsD w' B tl te sz k l D L N X :=
  ⟨own_belowAll h.1 hb, fun j hj => own_belowAll (h.2.1 j hj) hb, h.2.2⟩

theorem ListsD.step (h : ListsD w B tl te sz k l D L N X) (hv : w.ownsRow B te sz va (N k) (X k)) (hnew : ∀ b, va.ownBlock = some b → ∀ j, j < k → (L j).ownBlock ≠ some b) (hte : tl ≠ te) (o : Obj) {g cap : Nat}
    (hown : w'.ownsRow B tl 1 (.slice (some ⟨g, 0, none⟩) (k + 1) cap) (k + 1) ((List.range k).map D ++ [vd])) (hlies : Lies (w.alloc o) w' l k g cap) :
    ListsD w' B tl te sz (k + 1) (.slice (some ⟨g, 0, none⟩) (k + 1) cap) (fun j => if j = k then vd else D j) (fun j => if j = k then va else L j) N X := by
  obtain ⟨h1, h2, h3⟩ := h
  refine ⟨by rw [rows_snoc]; exact hown, fun j hj => ?_, fun i j hi hj hij b hb hb2 => ?_⟩
  · have hr : w.ownsRow B te sz (if j = k then va else L j) (N j) (X j) := by
      by_cases e : j = k
      · subst e; simpa using hv
      · simp only [if_neg e]; exact h2 j (by omega)
    exact hlies.own (hr.alloc o) (fun b hb e => own_ne h1 hr hte b e hb)
  · by_cases e1 : i = k
    · by_cases e2 : j = k
      · omega
      · simp only [if_pos e1] at hb
        simp only [if_neg e2] at hb2
        exact hnew b hb j (by omega) hb2
    · simp only [if_neg e1] at hb
      by_cases e2 : j = k
      · simp only [if_pos e2] at hb2
        exact hnew b hb2 i (by omega) hb
      · simp only [if_neg e2] at hb2
        exact h3 i j (by omega) (by omega) hij b hb hb2

theorem ListsD.fresh (h : ListsD w B tl te sz k l D L N X) {H : Nat} (hH : w.heap.size ≤ H) (hv : ∀ b, va.ownBlock = some b → H ≤ b) : ∀ b, va.ownBlock = some b → ∀ j, j < k → (L j).ownBlock ≠ some b := fun b hb j hj e => by
  have := ((h.2.1 j hj).lt b e).2
  have := hv b hb
  omega
end

def markI (i : Int) : Hv := ⟨-1000 - i, 0, ⟨#[]⟩⟩

def mark9 : Hv := ⟨-999, 0, ⟨#[]⟩⟩

/-- A slice's first n. -/
def cutV (n : Nat) : Value → Value
  | .slice p _ c => .slice p n c
  | v => v

/-- Length of row j of the twin, and its hits: m lists (of the lengths of zz, the hits z j), 64 marks. -/
def twN (zz : List (List Hv)) (j : Nat) : Nat := if j < zz.length then (zz.getD j []).length + 64 else 1

def twZ (zz : List (List Hv)) (j : Nat) : List Hv := if j < zz.length then zz.getD j [] ++ List.replicate 64 (markI j) else [mark9]

def twC (zz : List (List Hv)) (j : Nat) : Nat := if j < zz.length then (zz.getD j []).length else 1

/-- The twin with k rows made. -/
def TwIs (w : World) (B : Nat) (k : Nat) (zz : List (List Hv)) (l : Value) (L : Nat → Value) : Prop :=
  ListsD w B 23 34 3 k l (fun j => cutV (twC zz j) (L j)) L (twN zz) (fun j => encH (twZ zz j))
end Go.Proofs.Ytahceakghgmpkaa

/-
  MEMORY: what is carried through a round of the law BlockLists.
-/
import Derived.Test.YtihgjihdmlomaaaDoorJBxH
import Derived.Test.YtihgjihdmlomaaaDoorJBxA
namespace Go.Proofs.YtihgjihdmlomaaaDoor
open Go.RowKit ArgK
set_option linter.unusedVariables false

/-- What is carried from call to call: both files, the lists answered, two blocks, the lists of this round. -/
structure Cy (w W : World) (B bx tb : Nat) (BX TB : Obj) (b1 f1 b2 f2 : Nat) (h : Hd) (l : List Ent) (rf rd : Nat) (ov : Value) (Vs : List (Value × Nat)) (Rs : List (Value × List Ent)) : Prop where
  ct : Ct W B b1 f1 b2 f2 h l rf rd
  q : LsQ W B ov Vs
  hx : W.heap[bx]? = some BX
  ht : W.heap[tb]? = some TB
  bl : Below w.heap.size w W
  sz : B ≤ W.heap.size
  rs : ∀ x ∈ Rs, W.ownsRow B 33 5 x.1 x.2.length (encE x.2)
  ne : (bx ≠ f1 ∧ bx ≠ f2 ∧ tb ≠ f1 ∧ tb ≠ f2) ∧ (w.heap.size ≤ f1 ∧ w.heap.size ≤ f2) ∧ (bx < B ∧ tb < B ∧ w.heap.size ≤ B)
variable {w W W' : World} {B bx tb : Nat} {BX TB : Obj} {b1 f1 b2 f2 : Nat} {h : Hd} {l : List Ent} {rf rd : Nat} {ov : Value} {Vs : List (Value × Nat)} {Rs : List (Value × List Ent)}
theorem Cy.below (c : Cy w W B bx tb BX TB b1 f1 b2 f2 h l rf rd ov Vs Rs) (hb : Below W.heap.size W W') : Cy w W' B bx tb BX TB b1 f1 b2 f2 h l rf rd ov Vs Rs :=
  ⟨c.ct.below hb, c.q.below hb, (hb.block _ (Array.getElem?_eq_some_iff.1 c.hx).1).trans c.hx, (hb.block _ (Array.getElem?_eq_some_iff.1 c.ht).1).trans c.ht, c.bl.trans (hb.mono c.bl.size), Nat.le_trans c.sz hb.size, fun x hx => own_belowAll (c.rs x hx) hb, c.ne⟩
theorem Cy.grown {fb rf' rd' : Nat} (c : Cy w W B bx tb BX TB b1 f1 b2 f2 h l rf rd ov Vs Rs) (hc : Ct W' B b1 f1 b2 f2 h l rf' rd') (hg : W.grownBy W' (some fb)) (hB : fb < B) (h1 : bx ≠ fb) (h2 : tb ≠ fb) (h3 : w.heap.size ≤ fb) : Cy w W' B bx tb BX TB b1 f1 b2 f2 h l rf' rd' ov Vs Rs :=
  ⟨hc, c.q.grown hg hB, (hg.block _ (Array.getElem?_eq_some_iff.1 c.hx).1 (fun e => h1 (Option.some.inj e))).trans c.hx, (hg.block _ (Array.getElem?_eq_some_iff.1 c.ht).1 (fun e => h2 (Option.some.inj e))).trans c.ht,
    below_file c.bl hg h3, Nat.le_trans c.sz hg.size, fun x hx => own_grown (c.rs x hx) hg (fun k hk e => by have := ((c.rs x hx).lt k hk).1; have := Option.some.inj e; omega), c.ne⟩
theorem Cy.goF {r' : Nat} (c : Cy w W B bx tb BX TB b1 f1 b2 f2 h l rf rd ov Vs Rs) (hx : FileX W W' b1 f1 h l (r' : Nat)) (hg : W.grownBy W' (some f1)) : Cy w W' B bx tb BX TB b1 f1 b2 f2 h l r' rd ov Vs Rs :=
  c.grown (c.ct.goF hx hg) hg c.ct.lf.1 c.ne.1.1 c.ne.1.2.2.1 c.ne.2.1.1
theorem Cy.goD {r' : Nat} (c : Cy w W B bx tb BX TB b1 f1 b2 f2 h l rf rd ov Vs Rs) (hx : RFileX W W' b2 f2 h l (r' : Nat)) (hg : W.grownBy W' (some f2)) : Cy w W' B bx tb BX TB b1 f1 b2 f2 h l rf r' ov Vs Rs :=
  c.grown (c.ct.goD hx hg) hg c.ct.ld.1 c.ne.1.2.1 c.ne.1.2.2.2 c.ne.2.1.2
theorem Cy.add {v : Value} {L : List Ent} (c : Cy w W B bx tb BX TB b1 f1 b2 f2 h l rf rd ov Vs Rs) {base : Nat} (ho : W.ownsRow base 33 5 v L.length (encE L)) (hb : B ≤ base) : Cy w W B bx tb BX TB b1 f1 b2 f2 h l rf rd ov Vs (Rs ++ [(v, L)]) :=
  ⟨c.ct, c.q, c.hx, c.ht, c.bl, c.sz, fun x hx => by
    rcases List.mem_append.1 hx with hx | hx
    · exact c.rs x hx
    · rw [List.mem_singleton] at hx
      subst hx
      exact own_le ho hb, c.ne⟩
theorem Cy.drop (c : Cy w W B bx tb BX TB b1 f1 b2 f2 h l rf rd ov Vs Rs) (Rs' : List (Value × List Ent)) (hs : ∀ x ∈ Rs', x ∈ Rs) : Cy w W B bx tb BX TB b1 f1 b2 f2 h l rf rd ov Vs Rs' :=
  ⟨c.ct, c.q, c.hx, c.ht, c.bl, c.sz, fun x hx => c.rs x (hs x hx), c.ne⟩
theorem Cy.es (c : Cy w W B bx tb BX TB b1 f1 b2 f2 h l rf rd ov Vs Rs) {v : Value} {L : List Ent} (hm : (v, L) ∈ Rs) : ESl W v L := ESl.of_own (c.rs _ hm)

theorem open_no' {b : List UInt8} (ho : openR b = none) {w w' : World} {e : Ending} (h : OpenPost w b e w') : e = .returned (.tuple #[.pointer none, .int .i64 80]) ∧ Below w.heap.size w w' := by
  rcases h with ⟨hb, ⟨_, h⟩ | ⟨h', l', fb, h3, _⟩⟩
  · exact ⟨h, hb⟩
  · rw [ho] at h3; cases h3
theorem open_yes' {b : List UInt8} {h : Hd} {l : List Ent} (ho : openR b = some (h, l)) {w w' : World} {e : Ending} (hp : OpenPost w b e w') : ∃ f, e = .returned (.tuple #[.pointer (some ⟨f, 0, none⟩), .int .i64 0]) ∧ FileAt w' w.heap.size f h l 0 ∧ Below w.heap.size w w' := by
  rcases hp with ⟨hb, ⟨h2, _⟩ | ⟨h', l', fb, h3, h4, h5⟩⟩
  · rw [ho] at h2; cases h2
  · rw [ho] at h3
    cases h3
    exact ⟨fb, h4, h5, hb⟩
theorem ropen_no' {b : List UInt8} (ho : openR b = none) {w w' : World} {e : Ending} (h : ROpenPost w b e w') : e = .returned (.tuple #[.pointer none, .int .i64 80]) ∧ Below w.heap.size w w' := by
  rcases h with ⟨hb, ⟨_, h⟩ | ⟨h', l', fb, h3, _⟩⟩
  · exact ⟨h, hb⟩
  · rw [ho] at h3; cases h3
theorem ropen_yes' {b : List UInt8} {h : Hd} {l : List Ent} (ho : openR b = some (h, l)) {w w' : World} {e : Ending} (hp : ROpenPost w b e w') : ∃ f, e = .returned (.tuple #[.pointer (some ⟨f, 0, none⟩), .int .i64 0]) ∧ RFileAt w' w.heap.size f h l 0 ∧ Below w.heap.size w w' := by
  rcases hp with ⟨hb, ⟨h2, _⟩ | ⟨h', l', fb, h3, h4, h5⟩⟩
  · rw [ho] at h2; cases h2
  · rw [ho] at h3
    cases h3
    exact ⟨fb, h4, h5, hb⟩

/-- What is asked in turn. -/
def tOne : Ent := ⟨1, ⟨#[]⟩, 0, 0, false⟩
def turnsL (x : Ent × Int) : List (Ent × Int) := [x, x, (tOne, 2), (tOne, 2), x]
def turnsO (x : Ent × Int) : Obj := .cells #[.int .i64 x.1.v, .string x.1.c, .int .i64 x.1.i, .int .i64 x.1.s, .bool x.1.d, .int .i64 x.2, .int .i64 x.1.v, .string x.1.c, .int .i64 x.1.i, .int .i64 x.1.s, .bool x.1.d, .int .i64 x.2, .int .i64 1, .string ⟨#[]⟩, .int .i64 0, .int .i64 0, .bool false, .int .i64 2, .int .i64 1, .string ⟨#[]⟩, .int .i64 0, .int .i64 0, .bool false, .int .i64 2, .int .i64 x.1.v, .string x.1.c, .int .i64 x.1.i, .int .i64 x.1.s, .bool x.1.d, .int .i64 x.2] 44
theorem turns_at {x : Ent × Int} {W : World} {g : Nat} (hg : W.heap[g]? = some (turnsO x)) {k : Nat} {y : Ent × Int} (hy : (turnsL x)[k]? = some y) :
    W.cell? ⟨g, k * 6, none⟩ = some (.int .i64 y.1.v) ∧ W.cell? ⟨g, k * 6 + 1, none⟩ = some (.string y.1.c) ∧ W.cell? ⟨g, k * 6 + 2, none⟩ = some (.int .i64 y.1.i) ∧ W.cell? ⟨g, k * 6 + 3, none⟩ = some (.int .i64 y.1.s) ∧ W.cell? ⟨g, k * 6 + 4, none⟩ = some (.bool y.1.d) ∧ W.cell? ⟨g, k * 6 + 5, none⟩ = some (.int .i64 y.2) := by
  have hk := (List.getElem?_eq_some_iff.1 hy).1
  have hl : (turnsL x).length = 5 := rfl
  unfold turnsO at hg
  have hc : ∀ j v, (#[Value.int .i64 x.1.v, .string x.1.c, .int .i64 x.1.i, .int .i64 x.1.s, .bool x.1.d, .int .i64 x.2, .int .i64 x.1.v, .string x.1.c, .int .i64 x.1.i, .int .i64 x.1.s, .bool x.1.d, .int .i64 x.2, .int .i64 1, .string ⟨#[]⟩, .int .i64 0, .int .i64 0, .bool false, .int .i64 2, .int .i64 1, .string ⟨#[]⟩, .int .i64 0, .int .i64 0, .bool false, .int .i64 2, .int .i64 x.1.v, .string x.1.c, .int .i64 x.1.i, .int .i64 x.1.s, .bool x.1.d, .int .i64 x.2] : Array Value)[j]? = some v → W.cell? ⟨g, j, none⟩ = some v := fun j v hv => (arr_cell hg (k := j) hv).1
  rcases (show k = 0 ∨ k = 1 ∨ k = 2 ∨ k = 3 ∨ k = 4 by omega) with rfl | rfl | rfl | rfl | rfl <;>
  · have := Option.some.inj hy
    subst this
    exact ⟨hc _ _ rfl, hc _ _ rfl, hc _ _ rfl, hc _ _ rfl, hc _ _ rfl, hc _ _ rfl⟩
theorem turns_most {x : Ent × Int} (hx : x.2 ≤ 9223372036854775807) {k : Nat} {y : Ent × Int} (hy : (turnsL x)[k]? = some y) : y.2 ≤ 9223372036854775807 := by
  have hm := List.mem_of_getElem? hy
  unfold turnsL at hm
  simp only [List.mem_cons, List.not_mem_nil, or_false] at hm
  rcases hm with rfl | rfl | rfl | rfl | rfl <;> first | exact hx | decide
end Go.Proofs.YtihgjihdmlomaaaDoor

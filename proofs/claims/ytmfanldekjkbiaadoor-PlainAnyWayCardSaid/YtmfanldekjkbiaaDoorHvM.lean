/-
  HITS IN MEMORY: rows of hits.
-/
import Derived.Test.YtmfanldekjkbiaaDoorOrdW
namespace Go.Proofs.YtmfanldekjkbiaaDoor
open Go.RowKit
set_option linter.unusedVariables false

def encH (L : List Hv) : List Value := L.flatMap Hv.cells

theorem encH_cons (x : Hv) (L : List Hv) : encH (x :: L) = x.cells ++ encH L := rfl

theorem encH_append (L M : List Hv) : encH (L ++ M) = encH L ++ encH M := by simp [encH]

theorem encH_snoc (L : List Hv) (x : Hv) : encH (L ++ [x]) = encH L ++ x.cells := by simp [encH]

theorem encH_length (L : List Hv) : (encH L).length = L.length * 3 := by
  induction L with
  | nil => rfl
  | cons x L ih => rw [encH_cons, List.length_append, ih, List.length_cons]; simp [Hv.cells]; omega

theorem encH_get : ∀ (L : List Hv) (j : Nat) (x : Hv), L[j]? = some x → ∀ k, k < 3 → (encH L)[j * 3 + k]? = x.cells[k]?
  | [], _, _, h, _, _ => by simp at h
  | y :: L, 0, x, h, k, hk => by
    simp at h; subst h
    rw [encH_cons, Nat.zero_mul, Nat.zero_add, List.getElem?_append_left (by simp [Hv.cells]; omega)]
  | y :: L, j + 1, x, h, k, hk => by
    rw [encH_cons, show (j + 1) * 3 + k = (j * 3 + k) + y.cells.length by simp [Hv.cells]; omega, List.getElem?_append_right (Nat.le_add_left _ _), Nat.add_sub_cancel]
    exact encH_get L j x (by simpa using h) k hk

theorem encH_take (L : List Hv) (j : Nat) : (encH L).take (j * 3) = encH (L.take j) := by
  induction L generalizing j with
  | nil => simp [encH]
  | cons x L ih =>
    cases j with
    | zero => simp [encH]
    | succ j =>
      rw [encH_cons, show (j + 1) * 3 = x.cells.length + j * 3 by simp [Hv.cells]; omega, List.take_append, List.take_of_length_le (Nat.le_add_right _ _), Nat.add_sub_cancel_left, ih]
      rfl

theorem encH_set : ∀ (F : List Hv) (j : Nat) (x : Hv), (((encH F).set (j * 3) (.int .i64 x.d)).set (j * 3 + 1) (.int .i64 x.i)).set (j * 3 + 2) (.string x.c) = encH (F.set j x)
  | [], j, x => by simp [encH]
  | y :: F, 0, x => by
    rw [List.set_cons_zero, encH_cons, encH_cons]
    rfl
  | y :: F, j + 1, x => by
    rw [List.set_cons_succ, encH_cons, encH_cons, ← encH_set F j x]
    have h3 : (j + 1) * 3 = j * 3 + 3 := by omega
    rw [h3]
    rfl

theorem own_lenH {w : World} {base : Nat} {e : TypeId} {v : Value} {m : Nat} {F : List Hv} (h : w.ownsRow base e 3 v m (encH F)) : F.length = m := by
  have hl := h.1
  rw [encH_length] at hl
  exact Nat.eq_of_mul_eq_mul_right (by decide) hl

/-- The three cells of a hit of a row. -/
theorem own_threeH {w : World} {base : Nat} {e : TypeId} {g m c : Nat} {F : List Hv} (h : w.ownsRow base e 3 (.slice (some ⟨g, 0, none⟩) m c) m (encH F)) {j : Nat} {x : Hv} (hx : F[j]? = some x) :
    w.cell? ⟨g, j * 3, none⟩ = some (.int .i64 x.d) ∧ w.cell? ⟨g, j * 3 + 1, none⟩ = some (.int .i64 x.i) ∧ w.cell? ⟨g, j * 3 + 2, none⟩ = some (.string x.c) := by
  have hn := own_lenH h
  have hj := (List.getElem?_eq_some_iff.1 hx).1
  have hg := encH_get F j x hx
  exact ⟨by rw [h.cellAt _ (by omega)]; exact hg 0 (by decide), by rw [h.cellAt _ (by omega)]; exact hg 1 (by decide), by rw [h.cellAt _ (by omega)]; exact hg 2 (by decide)⟩

theorem own_takeH {w : World} {base : Nat} {e : TypeId} {g n cap : Nat} {F : List Hv} (h : w.ownsRow base e 3 (.slice (some ⟨g, 0, none⟩) n cap) n (encH F)) {k : Nat} (hk : k ≤ n) :
    w.ownsRow base e 3 (.slice (some ⟨g, 0, none⟩) k cap) k (encH (F.take k)) := by
  rw [← encH_take]; exact own_take h hk

theorem own_setH {w : World} {base : Nat} {e : TypeId} {g m c : Nat} {F : List Hv} (h : w.ownsRow base e 3 (.slice (some ⟨g, 0, none⟩) m c) m (encH F)) (j : Nat) (x : Hv) :
    (((w.setCell ⟨g, j * 3, none⟩ (.int .i64 x.d)).setCell ⟨g, j * 3 + 1, none⟩ (.int .i64 x.i)).setCell ⟨g, j * 3 + 2, none⟩ (.string x.c)).ownsRow base e 3 (.slice (some ⟨g, 0, none⟩) m c) m (encH (F.set j x)) := by
  rw [← encH_set F j x]
  exact ((((h.stored (j * 3) _).1.stored (j * 3 + 1) _).1).stored (j * 3 + 2) _).1

theorem add_zeroH (g k : Nat) : (⟨g, 0, none⟩ : Addr).add k = ⟨g, k, none⟩ := by unfold Addr.add; split <;> simp_all

theorem cell_ltH {w : World} {p : Addr} {v : Value} (h : w.cell? p = some v) : p.block < w.heap.size := by
  rcases Nat.lt_or_ge p.block w.heap.size with hlt | hge
  · exact hlt
  · simp [World.cell?, Array.getElem?_eq_none hge] at h

/-- A readable list of hits. -/
def HL (w : World) (p : Option Addr) (z : List Hv) : Prop := ∀ i x, z[i]? = some x → ∃ a, p = some a ∧ w.cell? (a.add (i * 3)) = some (.int .i64 x.d) ∧ w.cell? ⟨(a.add (i * 3)).block, (a.add (i * 3)).off + 1, none⟩ = some (.int .i64 x.i) ∧ w.cell? ⟨(a.add (i * 3)).block, (a.add (i * 3)).off + 2, none⟩ = some (.string x.c)

theorem HL.below {w w' : World} {p : Option Addr} {z : List Hv} (h : HL w p z) (hb : Below w.heap.size w w') : HL w' p z := by
  intro i x hx
  obtain ⟨a, e, h1, h2, h3⟩ := h i x hx
  exact ⟨a, e, (hb.cell (cell_ltH h1)).trans h1, (hb.cell (cell_ltH h2)).trans h2, (hb.cell (cell_ltH h3)).trans h3⟩

theorem HL.of_own {w : World} {base : Nat} {e : TypeId} {p : Option Addr} {m c : Nat} {F : List Hv} (h : w.ownsRow base e 3 (.slice p m c) m (encH F)) : HL w p F := by
  intro i x hx
  have hi := (List.getElem?_eq_some_iff.1 hx).1
  have hn := own_lenH h
  obtain ⟨p', c', e1, _, _, hr⟩ := own_rd h
  cases e1
  obtain ⟨g, rfl, _, _, _, _⟩ := hr (by omega)
  have := own_threeH h hx
  exact ⟨_, rfl, by rw [add_zeroH]; exact this.1, by rw [add_zeroH]; exact this.2.1, by rw [add_zeroH]; exact this.2.2⟩
end Go.Proofs.YtmfanldekjkbiaaDoor

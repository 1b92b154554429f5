/-
  ROWS OF PAIRS in memory; reading an argument of pairs.
-/
import Derived.Test.YtmfanldekjkbiaaDoorPlainA
import Derived.Test.YtmfanldekjkbiaaDoorArgK
namespace Go.Proofs.YtmfanldekjkbiaaDoor
open Go.RowKit ArgK
set_option linter.unusedVariables false

def Pv.cells (p : Pv) : List Value := [.int .i64 p.i, .string p.c]

def Pv.val (p : Pv) : Value := .agg #[.int .i64 p.i, .string p.c]

def encP (L : List Pv) : List Value := L.flatMap Pv.cells

theorem encP_cons (x : Pv) (L : List Pv) : encP (x :: L) = x.cells ++ encP L := rfl

theorem encP_snoc (L : List Pv) (x : Pv) : encP (L ++ [x]) = encP L ++ x.cells := by simp [encP]

theorem encP_length (L : List Pv) : (encP L).length = L.length * 2 := by
  induction L with
  | nil => rfl
  | cons x L ih => rw [encP_cons, List.length_append, ih, List.length_cons]; simp [Pv.cells]; omega

theorem encP_get : ∀ (L : List Pv) (j : Nat) (x : Pv), L[j]? = some x → ∀ k, k < 2 → (encP L)[j * 2 + k]? = x.cells[k]?
  | [], _, _, h, _, _ => by simp at h
  | y :: L, 0, x, h, k, hk => by
    simp at h; subst h
    rw [encP_cons, Nat.zero_mul, Nat.zero_add, List.getElem?_append_left (by simp [Pv.cells]; omega)]
  | y :: L, j + 1, x, h, k, hk => by
    rw [encP_cons, show (j + 1) * 2 + k = (j * 2 + k) + y.cells.length by simp [Pv.cells]; omega, List.getElem?_append_right (Nat.le_add_left _ _), Nat.add_sub_cancel]
    exact encP_get L j x (by simpa using h) k hk

theorem own_lenP {w : World} {base : Nat} {e : TypeId} {v : Value} {m : Nat} {F : List Pv} (h : w.ownsRow base e 2 v m (encP F)) : F.length = m := by
  have hl := h.1
  rw [encP_length] at hl
  exact Nat.eq_of_mul_eq_mul_right (by decide) hl

/-- A readable list of pairs. -/
def PL (w : World) (p : Option Addr) (z : List Pv) : Prop := ∀ i x, z[i]? = some x → ∃ a, p = some a ∧ w.cell? (a.add (i * 2)) = some (.int .i64 x.i) ∧ w.cell? ⟨(a.add (i * 2)).block, (a.add (i * 2)).off + 1, none⟩ = some (.string x.c)

theorem PL.below {w w' : World} {p : Option Addr} {z : List Pv} (h : PL w p z) (hb : Below w.heap.size w w') : PL w' p z := by
  intro i x hx
  obtain ⟨a, e, h1, h2⟩ := h i x hx
  exact ⟨a, e, (hb.cell (cell_ltH h1)).trans h1, (hb.cell (cell_ltH h2)).trans h2⟩

theorem PL.of_own {w : World} {base : Nat} {e : TypeId} {p : Option Addr} {m c : Nat} {F : List Pv} (h : w.ownsRow base e 2 (.slice p m c) m (encP F)) : PL w p F := by
  intro i x hx
  have hi := (List.getElem?_eq_some_iff.1 hx).1
  have hn := own_lenP h
  obtain ⟨p', c', e1, _, _, hr⟩ := own_rd h
  cases e1
  obtain ⟨g, rfl, _, _, _, _⟩ := hr (by omega)
  have hg := encP_get F i x hx
  refine ⟨_, rfl, ?_, ?_⟩
  · rw [add_zeroH, h.cellAt (i * 2) (by omega)]; exact hg 0 (by decide)
  · rw [add_zeroH]
    show w.cell? ⟨g, i * 2 + 1, none⟩ = _
    rw [h.cellAt (i * 2 + 1) (by omega)]; exact hg 1 (by decide)

/-- A pair as an argument. -/
def GoodP (x : Pv) : Prop := (Lit.int .i64 x.i).wf = true ∧ x.c.size ≤ 140737488351232

def IsPair (cs : List Value) (x : Pv) : Prop := cs = x.cells ∧ GoodP x

def bkPair (x : Pv) : Nat := x.c.size + 3

theorem rd_Pair (W : World) : RdT Tryd.prog W 49 IsPair bkPair := by
  have e : Tryd.prog.cellsOf 49 = 2 := by kernel_rfl
  have e1 : Tryd.prog.cellsOf 3 = 1 := by kernel_rfl
  have e2 : Tryd.prog.cellsOf 9 = 1 := by kernel_rfl
  refine RdT.mono (rd_struct Tryd.underlying49 (rdf_cons (rd_int Tryd.underlying3) (rdf_cons (rd_string Tryd.underlying9) rdf_nil))) ?_
  rintro cs ⟨i, c, u⟩ ⟨hl, h0, h1, _⟩
  simp only [e1, e2] at h0 h1
  rw [e] at hl
  match cs, hl with
  | [c0, c1], _ =>
    simp at h0 h1
    exact ⟨⟨i, c⟩, ⟨by rw [h0.1, h1.1]; rfl, h0.2, h1.2⟩, by show c.size + 3 ≤ 1 + (c.size + 1 + 0) + 1; omega⟩

theorem add_fieldP (a : Addr) (i k : Nat) (hk : k ≠ 0) : (⟨(a.add i).block, (a.add i).off + k, none⟩ : Addr) = a.add (i + k) := by
  unfold Addr.add
  by_cases hi : i = 0
  · subst hi; simp [hk]
  · simp [hi, hk, Nat.add_assoc]

theorem pairs_of_arg {w : World} {v : Value} {z : List Pv} (h : IsSl w 2 24 IsPair [v] z) : z.length * 24 ≤ 140737488351232 ∧ ∃ (p : Option Addr) (cap : Nat), v = .slice p z.length cap ∧ PL w p z ∧ ∀ x ∈ z, GoodP x := by
  obtain ⟨h1, h2⟩ := h
  refine ⟨h1, ?_⟩
  rcases h2 with ⟨h, rfl⟩ | ⟨a, cap, h, _, _, hc⟩
  · cases h
    exact ⟨none, 0, rfl, fun i x hx => by simp at hx, fun x hx => by simp at hx⟩
  · cases h
    refine ⟨some a, cap, rfl, fun i x hx => ?_, fun x hx => ?_⟩
    · obtain ⟨c, _, hr, hcell⟩ := hc i x hx
      obtain ⟨rfl, _⟩ := hr
      refine ⟨a, rfl, hcell 0 (by decide), ?_⟩
      rw [add_fieldP _ _ _ (by decide)]; exact hcell 1 (by decide)
    · obtain ⟨i, hi, hx⟩ := List.getElem_of_mem hx
      obtain ⟨c, _, hr, _⟩ := hc i x (by rw [List.getElem?_eq_getElem hi, hx])
      exact hr.2
end Go.Proofs.YtmfanldekjkbiaaDoor

/-
  READING ARGUMENTS: hits.
-/
import Derived.Test.YtahceakghgmpkaaArgK
import Derived.Test.YtahceakghgmpkaaBegunT
namespace Go.Proofs.Ytahceakghgmpkaa
open Go.RowKit ArgK
set_option linter.unusedVariables false

theorem add_fieldH (a : Addr) (i k : Nat) (hk : k ≠ 0) : (⟨(a.add i).block, (a.add i).off + k, none⟩ : Addr) = a.add (i + k) := by
  unfold Addr.add
  by_cases hi : i = 0
  · subst hi; simp [hk]
  · simp [hi, hk, Nat.add_assoc]

/-- A hit's cells. -/
def IsHit (cs : List Value) (x : Hv) : Prop := cs = x.cells ∧ GoodH x

def bkHit (x : Hv) : Nat := x.c.size + 4

theorem rd_Hit (W : World) : RdT Try.prog W 34 IsHit bkHit := by
  have e : Try.prog.cellsOf 34 = 3 := by kernel_rfl
  have e1 : Try.prog.cellsOf 3 = 1 := by kernel_rfl
  have e2 : Try.prog.cellsOf 9 = 1 := by kernel_rfl
  refine RdT.mono (rd_struct Try.underlying34 (rdf_cons (rd_int Try.underlying3) (rdf_cons (rd_int Try.underlying3) (rdf_cons (rd_string Try.underlying9) rdf_nil)))) ?_
  rintro cs ⟨d, i, c, u⟩ ⟨hl, h0, h1, h2, _⟩
  simp only [e1, e2] at h0 h1 h2
  rw [e] at hl
  match cs, hl with
  | [c0, c1, c2], _ =>
    simp at h0 h1 h2
    exact ⟨⟨d, i, c⟩, ⟨by rw [h0.1, h1.1, h2.1]; rfl, h0.2, h1.2, h2.2⟩, by show c.size + 4 ≤ 1 + (1 + (c.size + 1 + 0)) + 1; omega⟩

theorem hits_of_arg {w : World} {v : Value} {z : List Hv} (h : IsSl w 3 32 IsHit [v] z) : z.length * 32 ≤ 140737488351232 ∧ ∃ (p : Option Addr) (cap : Nat), v = .slice p z.length cap ∧ HL w p z ∧ ∀ x ∈ z, GoodH x := by
  obtain ⟨h1, h2⟩ := h
  refine ⟨h1, ?_⟩
  rcases h2 with ⟨h, rfl⟩ | ⟨a, cap, h, _, _, hc⟩
  · cases h
    exact ⟨none, 0, rfl, fun i x hx => by simp at hx, fun x hx => by simp at hx⟩
  · cases h
    refine ⟨some a, cap, rfl, fun i x hx => ?_, fun x hx => ?_⟩
    · obtain ⟨c, _, hr, hcell⟩ := hc i x hx
      obtain ⟨rfl, _⟩ := hr
      refine ⟨a, rfl, hcell 0 (by decide), ?_, ?_⟩
      · rw [add_fieldH _ _ _ (by decide)]; exact hcell 1 (by decide)
      · rw [add_fieldH _ _ _ (by decide)]; exact hcell 2 (by decide)
    · obtain ⟨i, hi, hx⟩ := List.getElem_of_mem hx
      obtain ⟨c, _, hr, _⟩ := hc i x (by rw [List.getElem?_eq_getElem hi, hx])
      exact hr.2
end Go.Proofs.Ytahceakghgmpkaa

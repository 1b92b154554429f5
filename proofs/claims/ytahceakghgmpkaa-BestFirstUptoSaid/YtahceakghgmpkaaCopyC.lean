/-
  THE TWIN, written over with other lists of the same lengths: what stands in it meanwhile (plain).
-/
import Derived.Test.YtahceakghgmpkaaCopyB
namespace Go.Proofs.Ytahceakghgmpkaa
open Go.RowKit ArgK
set_option linter.unusedVariables false

/-- Of the lists `now`, x are written, and y hits of the next. -/
structure Cop (now yy : List (List Hv)) (x y : Nat) : Prop where
  len : yy.length = now.length
  lens : ∀ j, (yy.getD j []).length = (now.getD j []).length
  done : ∀ j, j < x → yy.getD j [] = now.getD j []
  part : (yy.getD x []).take y = (now.getD x []).take y

theorem Cop.start {now yy : List (List Hv)} (h1 : yy.length = now.length) (h2 : ∀ j, (yy.getD j []).length = (now.getD j []).length) : Cop now yy 0 0 :=
  ⟨h1, h2, fun j hj => absurd hj (Nat.not_lt_zero _), by simp⟩

theorem Cop.step {now yy : List (List Hv)} {x y : Nat} (h : Cop now yy x y) (hx : x < now.length) (hy : y < (now.getD x []).length) : Cop now (putAt yy x y (hd (now.getD x []) y)) x (y + 1) := by
  refine ⟨by rw [putAt_length]; exact h.len, fun j => by rw [putAt_len]; exact h.lens j, fun j hj => ?_, ?_⟩
  · rw [putAt_getD, if_neg (fun k => by omega)]
    exact h.done j hj
  · rw [putAt_getD, if_pos ⟨rfl, by rw [h.len]; exact hx⟩, List.take_add_one, List.take_add_one, hd_get hy, List.getElem?_set_self (by rw [h.lens]; exact hy), ← h.part]
    rw [List.take_set_of_le (Nat.le_refl _)]

theorem Cop.next {now yy : List (List Hv)} {x : Nat} (h : Cop now yy x (now.getD x []).length) : Cop now yy (x + 1) 0 := by
  refine ⟨h.len, h.lens, fun j hj => ?_, by simp⟩
  by_cases e : j = x
  · subst e
    have := h.part
    rw [List.take_of_length_le (by rw [h.lens]; exact Nat.le_refl _), List.take_of_length_le (Nat.le_refl _)] at this
    exact this
  · exact h.done j (by omega)

theorem Cop.all {now yy : List (List Hv)} (h : Cop now yy now.length 0) : yy = now := by
  refine List.ext_getElem? fun j => ?_
  by_cases hj : j < now.length
  · have := h.done j hj
    rw [List.getD_eq_getElem?_getD, List.getD_eq_getElem?_getD, List.getElem?_eq_getElem (by rw [h.len]; exact hj), List.getElem?_eq_getElem hj] at this
    rw [List.getElem?_eq_getElem (by rw [h.len]; exact hj), List.getElem?_eq_getElem hj]
    simpa using this
  · rw [List.getElem?_eq_none (by rw [h.len]; omega), List.getElem?_eq_none (by omega)]
end Go.Proofs.Ytahceakghgmpkaa

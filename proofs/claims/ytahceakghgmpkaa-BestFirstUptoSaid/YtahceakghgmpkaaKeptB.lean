/-
  THE TWIN, read: its rows, the marks behind them.
-/
import Derived.Test.YtahceakghgmpkaaTwinC
namespace Go.Proofs.Ytahceakghgmpkaa
open Go.RowKit ArgK
set_option linter.unusedVariables false

theorem HL.front {w : World} {p : Option Addr} {z y : List Hv} (h : HL w p (z ++ y)) : HL w p z := fun i x hx => h i x (by rw [List.getElem?_append_left (List.getElem?_eq_some_iff.1 hx).1]; exact hx)

theorem TwIs.row {w : World} {B gT capT k : Nat} {zz : List (List Hv)} {L : Nat → Value} (h : TwIs w B k zz (.slice (some ⟨gT, 0, none⟩) k capT) L) {j : Nat} {z : List Hv} (hz : zz[j]? = some z) (hk : j < k) :
    ∃ g c, w.cell? ⟨gT, j, none⟩ = some (.slice (some ⟨g, 0, none⟩) z.length c) ∧ L j = .slice (some ⟨g, 0, none⟩) (z.length + 64) c ∧ z.length + 64 ≤ c ∧ c ≤ maxLen ∧ HL w (some ⟨g, 0, none⟩) (z ++ List.replicate 64 (markI j)) := by
  obtain ⟨h1, h2, h3⟩ := h
  have hj := (List.getElem?_eq_some_iff.1 hz).1
  have hgD : zz.getD j [] = z := by rw [List.getD_eq_getElem?_getD, hz]; rfl
  have hr := h2 j hk
  have e1 : twN zz j = z.length + 64 := by unfold twN; rw [if_pos hj, hgD]
  have e2 : twZ zz j = z ++ List.replicate 64 (markI j) := by unfold twZ; rw [if_pos hj, hgD]
  have e3 : twC zz j = z.length := by unfold twC; rw [if_pos hj, hgD]
  simp only [e1, e2] at hr
  obtain ⟨p, c, e, hc1, hc2, hp⟩ := own_rd hr
  obtain ⟨g, rfl, _⟩ := hp (by omega)
  refine ⟨g, c, ?_, e, hc1, hc2, HL.of_own (e ▸ hr)⟩
  rw [h1.cellAt j (by omega)]
  simp [hk, e, e3, cutV]

theorem TwIs.mark {w : World} {B gT capT k : Nat} {zz : List (List Hv)} {L : Nat → Value} (h : TwIs w B k zz (.slice (some ⟨gT, 0, none⟩) k capT) L) {j : Nat} (hj : zz.length ≤ j) (hk : j < k) :
    ∃ g c, w.cell? ⟨gT, j, none⟩ = some (.slice (some ⟨g, 0, none⟩) 1 c) ∧ HL w (some ⟨g, 0, none⟩) [mark9] := by
  obtain ⟨h1, h2, h3⟩ := h
  have hj' : ¬ j < zz.length := by omega
  have hr := h2 j hk
  have e1 : twN zz j = 1 := by unfold twN; rw [if_neg hj']
  have e2 : twZ zz j = [mark9] := by unfold twZ; rw [if_neg hj']
  have e3 : twC zz j = 1 := by unfold twC; rw [if_neg hj']
  simp only [e1, e2] at hr
  obtain ⟨p, c, e, hc1, hc2, hp⟩ := own_rd hr
  obtain ⟨g, rfl, _⟩ := hp (by omega)
  refine ⟨g, c, ?_, HL.of_own (e ▸ hr)⟩
  rw [h1.cellAt j (by omega)]
  simp [hk, e, e3, cutV]

theorem TwIs.below {w w' : World} {B k : Nat} {zz : List (List Hv)} {l : Value} {L : Nat → Value} (h : TwIs w B k zz l L) (hb : Below w.heap.size w w') : TwIs w' B k zz l L := ListsD.below h hb

/-- The twin is a readable list of lists. -/
theorem TwIs.hll {w : World} {B gT capT k : Nat} {zz : List (List Hv)} {L : Nat → Value} (h : TwIs w B k zz (.slice (some ⟨gT, 0, none⟩) k capT) L) (hk : zz.length ≤ k) : HLL w (some ⟨gT, 0, none⟩) zz := by
  intro i z hz
  obtain ⟨g, c, h1, _, _, _, h2⟩ := h.row hz (by have := (List.getElem?_eq_some_iff.1 hz).1; omega)
  exact ⟨_, _, c, rfl, by rw [add_zeroH]; exact h1, h2.front, fun h => by cases h⟩
end Go.Proofs.Ytahceakghgmpkaa

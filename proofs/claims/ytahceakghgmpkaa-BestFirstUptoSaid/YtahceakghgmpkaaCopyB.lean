/-
  THE TWIN, written: a hit stored into a row of it.
-/
import Derived.Test.YtahceakghgmpkaaKeptC
namespace Go.Proofs.Ytahceakghgmpkaa
open Go.RowKit ArgK
set_option linter.unusedVariables false

/-- The lists with hit y of list x another. -/
def putAt (yy : List (List Hv)) (x y : Nat) (h : Hv) : List (List Hv) := yy.set x ((yy.getD x []).set y h)

theorem putAt_length (yy : List (List Hv)) (x y : Nat) (h : Hv) : (putAt yy x y h).length = yy.length := by simp [putAt]

theorem putAt_getD (yy : List (List Hv)) (x y j : Nat) (h : Hv) : (putAt yy x y h).getD j [] = if j = x ∧ x < yy.length then (yy.getD x []).set y h else yy.getD j [] := by
  unfold putAt
  rw [List.getD_eq_getElem?_getD, List.getElem?_set]
  by_cases e : x = j
  · subst e
    by_cases hx : x < yy.length
    · simp [hx]
    · simp [hx, List.getD_eq_getElem?_getD]
  · rw [if_neg e, if_neg (fun k => e k.1.symm), List.getD_eq_getElem?_getD]

theorem own_setK {w : World} {base : Nat} {e : TypeId} {size : Nat} {v : Value} {n : Nat} {xs : List Value} (h : w.ownsRow base e size v n xs) {g : Nat} (hp : v.ownBlock ≠ some g) (j : Nat) (x : Hv) :
    (((w.setCell ⟨g, j * 3, none⟩ (.int .i64 x.d)).setCell ⟨g, j * 3 + 1, none⟩ (.int .i64 x.i)).setCell ⟨g, j * 3 + 2, none⟩ (.string x.c)).ownsRow base e size v n xs :=
  own_setCell (own_setCell (own_setCell h (p := ⟨g, j * 3, none⟩) hp _) (p := ⟨g, j * 3 + 1, none⟩) hp _) (p := ⟨g, j * 3 + 2, none⟩) hp _

theorem putAt_len (yy : List (List Hv)) (x y j : Nat) (h : Hv) : ((putAt yy x y h).getD j []).length = (yy.getD j []).length := by
  rw [putAt_getD]
  split
  · rename_i e; rw [e.1]; simp
  · rfl

theorem TwIs.store {w : World} {B k x y g c : Nat} {yy : List (List Hv)} {l : Value} {L : Nat → Value} (hT : TwIs w B k yy l L) (hk : yy.length ≤ k) (hx : x < yy.length) (hy : y < (yy.getD x []).length) (h : Hv)
    (hL : L x = .slice (some ⟨g, 0, none⟩) ((yy.getD x []).length + 64) c) :
    TwIs (((w.setCell ⟨g, y * 3, none⟩ (.int .i64 h.d)).setCell ⟨g, y * 3 + 1, none⟩ (.int .i64 h.i)).setCell ⟨g, y * 3 + 2, none⟩ (.string h.c)) B k (putAt yy x y h) l L := by
  obtain ⟨h1, h2, h3⟩ := hT
  have hN : twN (putAt yy x y h) = twN yy := by
    funext j; unfold twN; rw [putAt_length, putAt_len]
  have hC : twC (putAt yy x y h) = twC yy := by
    funext j; unfold twC; rw [putAt_length, putAt_len]
  unfold TwIs
  rw [hN, hC]
  have hbx : (L x).ownBlock = some g := by rw [hL]; rfl
  refine ⟨own_setK h1 (own_ne (h2 x (by omega)) h1 (by decide) g hbx) y h, fun j hj => ?_, h3⟩
  by_cases e : j = x
  · subst e
    have hr := h2 j hj
    have e1 : twN yy j = (yy.getD j []).length + 64 := by unfold twN; rw [if_pos hx]
    have e2 : twZ yy j = yy.getD j [] ++ List.replicate 64 (markI j) := by unfold twZ; rw [if_pos hx]
    have e3 : twZ (putAt yy j y h) j = (twZ yy j).set y h := by
      rw [e2]
      unfold twZ
      rw [putAt_length, if_pos hx, putAt_getD, if_pos ⟨rfl, hx⟩, List.set_append_left _ _ hy]
    simp only [e1, hL] at hr ⊢
    rw [e3]
    exact own_setH hr y h
  · have e3 : twZ (putAt yy x y h) j = twZ yy j := by
      unfold twZ
      have e4 : (putAt yy x y h).getD j [] = yy.getD j [] := by rw [putAt_getD]; exact if_neg (fun k => e k.1)
      rw [putAt_length, e4]
    simp only [e3]
    exact own_setK (h2 j hj) (h3 x j (by omega) hj (Ne.symm e) g hbx) y h
end Go.Proofs.Ytahceakghgmpkaa

/-
  WALKS: vectors made, scaled, turned; a signer asked.
-/
import Derived.Test.YtcdlmjbjpeokfaaDoorAddP
import Derived.Test.YtcdlmjbjpeokfaaDoorAddL
import Derived.Deep.AppendLies
import Derived.Deep.RegionLaw
namespace Go.Proofs.YtcdlmjbjpeokfaaDoor
open Go.RowKit ArgK
set_option linter.unusedVariables false

/-- A vector brought within bounds. -/
def fitV (most : Int) (x : Int × Int) : Int × Int := (fitR x.1 most, fitR x.2 most)

def vecL (zs : List (Int × Int)) (n : Nat) (most : Int) : List (Int × Int) := (List.range n).map fun k => fitV most (zs.getD k (0, 0))

theorem vecL_length (zs : List (Int × Int)) (n : Nat) (most : Int) : (vecL zs n most).length = n := by simp [vecL]

theorem vecL_get (zs : List (Int × Int)) (n : Nat) (most : Int) (k : Nat) (hk : k < n) : (vecL zs n most)[k]? = some (fitV most (zs.getD k (0, 0))) := by simp [vecL, hk]

theorem vecL_bound (zs : List (Int × Int)) (n : Nat) (most : Int) (hm : 0 ≤ most) : ∀ x ∈ vecL zs n most, (-most ≤ x.1 ∧ x.1 ≤ most) ∧ (-most ≤ x.2 ∧ x.2 ≤ most) := by
  intro x hx
  unfold vecL at hx
  rw [List.mem_map] at hx
  obtain ⟨k, _, rfl⟩ := hx
  exact ⟨fitR_bound _ _ hm, fitR_bound _ _ hm⟩

end Go.Proofs.YtcdlmjbjpeokfaaDoor

/-
  PLAIN LAWS: hits within a distance.
-/
import Derived.Test.YtmfanldekjkbiaaDoorHvP
namespace Go.Proofs.YtmfanldekjkbiaaDoor
open Go.RowKit
set_option linter.unusedVariables false

theorem hless_d {a b : Hv} (h : hless a b) : a.d ≤ b.d := by
  rcases h with h | ⟨h, _⟩
  · omega
  · omega

theorem allH_length (H : List Hv) : (allH H).length ≤ H.length := by
  have : ∀ (H S : List Hv), Ris S → (H.foldl insH S).length ≤ S.length + H.length := by
    intro H
    induction H with
    | nil => intro S _; simp
    | cons x H ih =>
      intro S hS
      have h1 := ih (insH S x) (ris_insH hS x)
      have h2 := insH_length hS x
      rw [List.foldl_cons, List.length_cons]
      split at h2 <;> omega
  simpa [allH] using this H [] List.Pairwise.nil

/-- Within r. -/
def near (r : Int) (x : Hv) : Bool := decide (x.d ≤ r)

theorem allH_filter (r : Int) (H : List Hv) : allH (H.filter (near r)) = (allH H).filter (near r) := by
  refine ris_ext (allH_ris _) (List.Pairwise.filter _ (allH_ris H)) (fun x => ?_)
  rw [allH_mem, List.mem_filter, List.mem_filter, allH_mem]

theorem near_prefix (r : Int) : ∀ (S : List Hv) (i : Nat) (x : Hv), Ris S → S[i]? = some x → x.d ≤ r → (S.filter (near r))[i]? = some x
  | [], _, _, _, h, _ => by simp at h
  | y :: S, 0, x, _, h, hr => by
    simp at h; subst h
    rw [List.filter_cons, if_pos (by simp [near]; exact hr)]
    rfl
  | y :: S, i + 1, x, hS, h, hr => by
    have hx : S[i]? = some x := by simpa using h
    obtain ⟨h1, h2⟩ := List.pairwise_cons.1 hS
    have hy := hless_d (h1 x (List.mem_of_getElem? hx))
    rw [List.filter_cons, if_pos (by simp [near]; omega)]
    exact near_prefix r S i x h2 hx hr

/-- What a ball keeps of hits. -/
theorem ball_snoc (r : Int) (H : List Hv) (x : Hv) : allH ((H ++ [x]).filter (near r)) = if x.d ≤ r then insH (allH (H.filter (near r))) x else allH (H.filter (near r)) := by
  rw [List.filter_append]
  by_cases h : x.d ≤ r
  · have : [x].filter (near r) = [x] := by simp [near, h]
    rw [this, allH_snoc, if_pos h]
  · have : [x].filter (near r) = [] := by simp [near, h]
    rw [this, List.append_nil, if_neg h]

end Go.Proofs.YtmfanldekjkbiaaDoor

/-
  PLAIN LAWS on the chunks of a code (no program in sight).
-/
import Derived.Test.YtldcfgifimdmmaaDoorBitsP
namespace Go.Proofs.YtldcfgifimdmmaaDoor
set_option linter.unusedVariables false

/-- How many bits chunk j has, and where it begins. -/
def cN (w m j : Nat) : Nat := w / m + if j < w % m then 1 else 0
def cF (w m : Nat) : Nat → Nat
  | 0 => 0
  | j + 1 => cF w m j + cN w m j
/-- The first n chunks: number, place, bits. -/
def chunkL (w m n : Nat) : List (Nat × Nat × Nat) := (List.range n).map fun j => (j, cF w m j, cN w m j)
theorem chunkL_length (w m n : Nat) : (chunkL w m n).length = n := by simp [chunkL]
theorem chunkL_succ (w m n : Nat) : chunkL w m (n + 1) = chunkL w m n ++ [(n, cF w m n, cN w m n)] := by simp [chunkL, List.range_succ]
theorem cF_eq (w m : Nat) : ∀ j, cF w m j = j * (w / m) + min j (w % m)
  | 0 => by simp [cF]
  | j + 1 => by
    rw [cF, cF_eq w m j, cN, Nat.succ_mul]
    split <;> omega
theorem cF_all (w m : Nat) (hm : 0 < m) : cF w m m = w := by
  rw [cF_eq, Nat.min_eq_right (Nat.le_of_lt (Nat.mod_lt w hm))]
  exact Nat.div_add_mod w m
theorem cF_mono (w m : Nat) {i j : Nat} (h : i ≤ j) : cF w m i ≤ cF w m j := by
  induction h with
  | refl => exact Nat.le_refl _
  | step _ ih => exact Nat.le_trans ih (by rw [cF]; exact Nat.le_add_right _ _)
theorem cF_le (w m j : Nat) (hm : 0 < m) (h : j ≤ m) : cF w m j ≤ w := by
  have := cF_mono w m h
  rw [cF_all w m hm] at this; exact this
theorem cF_end (w m j : Nat) (hm : 0 < m) (h : j < m) : cF w m j + cN w m j ≤ w := cF_le w m (j + 1) hm h
end Go.Proofs.YtldcfgifimdmmaaDoor

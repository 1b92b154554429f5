/-
  PLAIN LAWS on the frames that stand one behind the other (no program in sight).
-/
import Derived.Test.YtebbmifpidbdlaaDoorSealP
namespace Go.Proofs.YtebbmifpidbdlaaDoor
set_option linter.unusedVariables false

/-- What a text tells that stands at a place, up to n frames. -/
def frGo (b : List UInt8) : Nat → Nat → List (Int × List UInt8 × Nat) × Nat
  | 0, a => ([], a)
  | n + 1, a => if (parseR b a).2.2.2 ≠ 0 then ([], a) else
      (((parseR b a).1, (parseR b a).2.1, a) :: (frGo b n (a + (parseR b a).2.1.length + 14)).1, (frGo b n (a + (parseR b a).2.1.length + 14)).2)
/-- The frames of a text, and where they end. -/
def framesR (b : List UInt8) : List (Int × List UInt8 × Nat) × Nat := frGo b (b.length + 1) 0
theorem frGo_end (b : List UInt8) (n a : Nat) (h : (parseR b a).2.2.2 ≠ 0) : frGo b n a = ([], a) := by
  cases n with
  | zero => rfl
  | succ n => rw [frGo, if_pos h]
theorem frGo_step (b : List UInt8) (n a : Nat) (h : (parseR b a).2.2.2 = 0) : frGo b (n + 1) a = (((parseR b a).1, (parseR b a).2.1, a) :: (frGo b n (a + (parseR b a).2.1.length + 14)).1, (frGo b n (a + (parseR b a).2.1.length + 14)).2) := by
  rw [frGo, if_neg (by simpa using h)]
/-- What has been told so far, and what is still to be told. -/
def FrSo (b : List UInt8) (L : List (Int × List UInt8 × Nat)) (a n : Nat) : Prop :=
  framesR b = (L ++ (frGo b n a).1, (frGo b n a).2) ∧ L.length + n = b.length + 1 ∧ 14 * L.length ≤ a ∧ a ≤ b.length
theorem FrSo.start (b : List UInt8) : FrSo b [] 0 (b.length + 1) := ⟨rfl, by simp, by simp, Nat.zero_le _⟩
theorem FrSo.stop {b : List UInt8} {L : List (Int × List UInt8 × Nat)} {a n : Nat} (h : FrSo b L a n) (he : (parseR b a).2.2.2 ≠ 0) : framesR b = (L, a) := by
  rw [h.1, frGo_end b n a he, List.append_nil]
theorem parse_shape (r : List UInt8) (a : Nat) (x : Int × List UInt8 × Int × Int) (h : parseR r a = x) (h0 : x.2.2.2 = 0) : a ≤ r.length ∧ x.2.2.1 = ((a + x.2.1.length + 14 : Nat) : Int) ∧ a + x.2.1.length + 14 ≤ r.length := by
  unfold parseR at h
  by_cases c : (a : Int) < 0 ∨ (r.length : Int) < a
  · rw [if_pos c] at h; subst h; cases h0
  rw [if_neg c] at h
  obtain ⟨k, g1, g2, g3, g4, g5, g6, g7⟩ := parse_only _ _ x h h0
  simp only [Int.toNat_natCast] at g5
  simp at g7
  exact ⟨by omega, g5, by omega⟩
theorem FrSo.step {b : List UInt8} {L : List (Int × List UInt8 × Nat)} {a n : Nat} (h : FrSo b L a n) (he : (parseR b a).2.2.2 = 0) :
    ∃ m, FrSo b (L ++ [((parseR b a).1, (parseR b a).2.1, a)]) (a + (parseR b a).2.1.length + 14) m := by
  obtain ⟨h1, h2, h3, h4⟩ := h
  obtain ⟨_, _, g⟩ := parse_shape b a _ rfl he
  obtain ⟨m, rfl⟩ : ∃ m, n = m + 1 := ⟨n - 1, by omega⟩
  refine ⟨m, ?_, by simp; omega, by simp; omega, g⟩
  rw [h1, frGo_step b m a he]
  simp
theorem parse_at_end (b : List UInt8) : (parseR b b.length).2.2.2 ≠ 0 := by
  intro h
  obtain ⟨_, _, g⟩ := parse_shape b b.length _ rfl h
  omega
theorem framesR_le (b : List UInt8) : 14 * (framesR b).1.length ≤ b.length ∧ (framesR b).2 ≤ b.length := by
  have go : ∀ n a, a ≤ b.length → 14 * (frGo b n a).1.length + a ≤ b.length ∧ (frGo b n a).2 ≤ b.length := by
    intro n
    induction n with
    | zero => intro a h; simp [frGo]; omega
    | succ n ih =>
      intro a h
      by_cases he : (parseR b a).2.2.2 = 0
      · obtain ⟨_, _, g⟩ := parse_shape b a _ rfl he
        rw [frGo_step b n a he]
        have := ih (a + (parseR b a).2.1.length + 14) g
        simp; omega
      · rw [frGo_end b _ a he]; simp; omega
  have := go (b.length + 1) 0 (Nat.zero_le _)
  unfold framesR
  omega
end Go.Proofs.YtebbmifpidbdlaaDoor

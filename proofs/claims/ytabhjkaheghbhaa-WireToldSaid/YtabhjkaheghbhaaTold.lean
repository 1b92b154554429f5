/-
  WALK: the program's Told, in one.
-/
import Derived.Test.YtabhjkaheghbhaaToldX
namespace Go.Proofs.Ytabhjkaheghbhaa
open Go.RowKit
set_option linter.unusedVariables false

/-- What Told reads: the state, the code, the number, the text, the hits. -/
def toldS (b : ByteArray) : St × Int × Int × ByteArray × List Hv :=
  match pNum b 999 13 (hd2 b 82) with
  | (.error e, c) => (.error e, c, 0, ⟨#[]⟩, [])
  | (.ok a, c) => if c = 0 then ((toldR (kdOf (hdv b 82)) b (.ok a)).1, 0, (toldR (kdOf (hdv b 82)) b (.ok a)).2.1, (toldR (kdOf (hdv b 82)) b (.ok a)).2.2.1, (toldR (kdOf (hdv b 82)) b (.ok a)).2.2.2) else (.ok a, c, 0, ⟨#[]⟩, [])
theorem Told_calls (b : ByteArray) (hb : b.size ≤ 4611686018427387904) (w : World) :
    Calls Try.prog 16 #[.string b] w fun x w' => TO 35 (pEnd b (toldS b).1) (hdv b 82) (toldS b).2.1 (toldS b).2.2.1 (toldS b).2.2.2.1 (toldS b).2.2.2.2 x w w' := by
  unfold toldS
  obtain ⟨s, c, hp⟩ : ∃ s c, pNum b 999 13 (hd2 b 82) = (s, c) := ⟨_, _, rfl⟩
  rw [hp]
  cases s with
  | error e => exact told_err b hb _ c rfl e hp w
  | ok a =>
    simp only
    by_cases hc : c = 0
    · rw [if_pos hc]
      have hd : ∃ a0, hd2 b 82 = Except.ok a0 := by
        cases h : hd2 b 82 with
        | error e => rw [h] at hp; simp [pNum] at hp
        | ok a0 => exact ⟨a0, rfl⟩
      obtain ⟨a0, hd⟩ := hd
      have hr := hd_ok hd
      obtain ⟨op, hop⟩ : ∃ op, hdv b 82 = op := ⟨_, rfl⟩
      rw [hop] at hr ⊢
      subst hc
      have hc9 : op = 1 ∨ op = 2 ∨ op = 3 ∨ op = 4 ∨ op = 5 ∨ op = 6 ∨ op = 7 ∨ op = 8 ∨ op = 9 := by omega
      rcases hc9 with rfl | rfl | rfl | rfl | rfl | rfl | rfl | rfl | rfl
      · exact told_1 b hb 1 0 hop a hp rfl _ _ _ _ _ opsAt1 w
      · exact told_1 b hb 2 0 hop a hp rfl _ _ _ _ _ opsAt2 w
      · exact told_3 b hb 3 0 hop a hp rfl _ _ _ _ _ opsAt3 w
      · exact told_4 b hb 4 0 hop a hp rfl _ _ _ _ _ opsAt4 w
      · exact told_4 b hb 5 0 hop a hp rfl _ _ _ _ _ opsAt5 w
      · exact told_6 b hb 6 0 hop a hp rfl _ _ _ _ _ opsAt6 w
      · exact told_1 b hb 7 0 hop a hp rfl _ _ _ _ _ opsAt7 w
      · exact told_6 b hb 8 0 hop a hp rfl _ _ _ _ _ opsAt8 w
      · exact told_1 b hb 9 0 hop a hp rfl _ _ _ _ _ opsAt9 w
    · rw [if_neg hc]
      exact told_code b hb _ c rfl a hp hc w
end Go.Proofs.Ytabhjkaheghbhaa

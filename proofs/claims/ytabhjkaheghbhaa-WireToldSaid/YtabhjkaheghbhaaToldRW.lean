/-
  WALK: the document's Told, in one.
-/
import Derived.Test.YtabhjkaheghbhaaToldR
namespace Go.Proofs.Ytabhjkaheghbhaa
open Go.RowKit
set_option linter.unusedVariables false

theorem pNum_err0 {b : ByteArray} {most : Nat} {E : Int} {s : St} {e c : Int} (h : pNum b most E s = (.error e, c)) : c = 0 := by
  unfold pNum at h
  cases s with
  | error e => simp at h; exact h.2.symm
  | ok a =>
    simp only at h
    split at h
    · exact (Prod.mk.inj h).2.symm
    · split at h
      · exact (Prod.mk.inj h).2.symm
      · split at h
        · exact (Prod.mk.inj h).2.symm
        · exact absurd (Prod.mk.inj h).1 (by simp)
theorem tls_cases (op : Int) : (tls op = (true, false, false) ∧ kdOf op = 3) ∨ (tls op = (false, true, false) ∧ kdOf op = 6) ∨ (tls op = (false, false, true) ∧ kdOf op = 4) ∨ (tls op = (false, false, false) ∧ kdOf op = 1) := by
  by_cases h3 : op = 3
  · subst h3; exact .inl ⟨rfl, rfl⟩
  · by_cases h6 : op = 6
    · subst h6; exact .inr (.inl ⟨rfl, rfl⟩)
    · by_cases h8 : op = 8
      · subst h8; exact .inr (.inl ⟨rfl, rfl⟩)
      · by_cases h4 : op = 4
        · subst h4; exact .inr (.inr (.inl ⟨rfl, rfl⟩))
        · by_cases h5 : op = 5
          · subst h5; exact .inr (.inr (.inl ⟨rfl, rfl⟩))
          · refine .inr (.inr (.inr ⟨?_, ?_⟩))
            · simp [tls, h3, h4, h5, h6, h8]
            · simp [kdOf, h3, h4, h5, h6, h8]
theorem rTold_calls (b : ByteArray) (hb : b.size ≤ 4611686018427387904) (w : World) :
    Calls Try.prog 17 #[.string b] w fun x w' => TO 35 (pEnd b (toldS b).1) (hdv b 82) (toldS b).2.1 (toldS b).2.2.1 (toldS b).2.2.2.1 (toldS b).2.2.2.2 x w w' := by
  unfold toldS
  obtain ⟨s, c, hp⟩ : ∃ s c, pNum b 999 13 (hd2 b 82) = (s, c) := ⟨_, _, rfl⟩
  rw [hp]
  cases s with
  | error e =>
    obtain rfl := pNum_err0 hp
    simp only
    rcases tls_cases (hdv b 82) with ⟨h, _⟩ | ⟨h, _⟩ | ⟨h, _⟩ | ⟨h, _⟩
    · exact rtold_3 b hb _ 0 _ rfl hp rfl h w
    · exact rtold_6 b hb _ 0 _ rfl hp rfl h w
    · have k := rtold_4 b hb _ 0 _ rfl hp rfl h w
      rw [show pHits b (.error e) = (.error e, []) by unfold pHits; exact pLoop_err b _ e []] at k
      exact k
    · exact rtold_1 b hb _ 0 _ rfl hp rfl h w
  | ok a =>
    simp only
    by_cases hc : c = 0
    · rw [if_pos hc]
      subst hc
      rcases tls_cases (hdv b 82) with ⟨h, hk⟩ | ⟨h, hk⟩ | ⟨h, hk⟩ | ⟨h, hk⟩ <;> rw [hk]
      · exact rtold_3 b hb _ 0 _ rfl hp rfl h w
      · exact rtold_6 b hb _ 0 _ rfl hp rfl h w
      · exact rtold_4 b hb _ 0 _ rfl hp rfl h w
      · exact rtold_1 b hb _ 0 _ rfl hp rfl h w
    · rw [if_neg hc]
      exact rtold_code b hb _ c _ rfl hp hc w
end Go.Proofs.Ytabhjkaheghbhaa

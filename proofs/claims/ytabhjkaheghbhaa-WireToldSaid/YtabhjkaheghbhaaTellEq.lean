/-
  PLAIN LAW: what the document's Tell answers is what the program's does.
-/
import Derived.Test.YtabhjkaheghbhaaFits
import Derived.Test.YtabhjkaheghbhaaTell
namespace Go.Proofs.Ytabhjkaheghbhaa
open Go.RowKit
set_option linter.unusedVariables false

/-- What the document's Tell answers. -/
def rTellOut (op code n : Int) (t : ByteArray) (z : List Hv) : List UInt8 × Int :=
  if fitsE op code n t z.length ≠ 0 then ([], fitsE op code n t z.length) else if goesE z ≠ 0 then ([], goesE z)
  else ([82, UInt8.ofNat op.toNat] ++ vNum code ++ (if code = 0 then (if (tls op).1 then vNum t.size ++ t.data.toList else []) ++ (if (tls op).2.1 then vNum n else []) ++ (if (tls op).2.2 then vNum z.length else []) ++ hitsB z else []), 0)
theorem fits_bad (T N H : Bool) (kd : Nat) (h : (kd, T, N, H) = (1, false, false, false) ∨ (kd, T, N, H) = (3, true, false, false) ∨ (kd, T, N, H) = (6, false, true, false) ∨ (kd, T, N, H) = (4, false, false, true)) (code n : Int) (t : ByteArray) (m : Nat) :
    fitsF T N H (code == 0) n t m = tellBad kd code n t m := by
  have e1 : (code != 0) = !(code == 0) := rfl
  have e2 : (n != 0) = !(n == 0) := rfl
  have e3 : decide (0 < m) = !(m == 0) := by
    by_cases hm : m = 0
    · subst hm; rfl
    · have : (m == 0) = false := by rw [beq_eq_false_iff_ne]; exact hm
      rw [this]
      simp; omega
  have e4 : (⟨#[]⟩ : ByteArray).toList.isEmpty = true := by rw [ByteArray.toList_eq]; rfl
  unfold fitsF tellBad zeroB
  rw [e1, e2, e3, e4]
  generalize (code == 0) = A
  generalize (n == 0) = X
  generalize t.toList.isEmpty = Y
  generalize (m == 0) = Z
  rcases h with h | h | h | h <;> (simp only [Prod.mk.injEq] at h; obtain ⟨rfl, rfl, rfl, rfl⟩ := h; cases A <;> cases X <;> cases Y <;> cases Z <;> rfl)
theorem empty_of {t : ByteArray} (h : t.toList.isEmpty = true) : t = ⟨#[]⟩ := by
  rw [ByteArray.toList_eq, List.isEmpty_iff] at h
  exact ByteArray.ext (Array.toList_inj.1 h)
theorem rTell_eq (op code n : Int) (t : ByteArray) (z : List Hv) : rTellOut op code n t z = tellOut op code n t z := by
  unfold rTellOut fitsE tellOut
  by_cases hop : 1 ≤ op ∧ op ≤ 9
  · have hno : ¬ ¬ (1 ≤ op ∧ op ≤ 9) := fun h => h hop
    simp only [if_neg hno]
    by_cases hco : code < 0 ∨ 999 < code
    · simp only [if_pos hco]
      simp
    · simp only [if_neg hco]
      have hk : (kdOf op, (tls op).1, (tls op).2.1, (tls op).2.2) = (1, false, false, false) ∨ (kdOf op, (tls op).1, (tls op).2.1, (tls op).2.2) = (3, true, false, false) ∨ (kdOf op, (tls op).1, (tls op).2.1, (tls op).2.2) = (6, false, true, false) ∨ (kdOf op, (tls op).1, (tls op).2.1, (tls op).2.2) = (4, false, false, true) := by
        have hc9 : op = 1 ∨ op = 2 ∨ op = 3 ∨ op = 4 ∨ op = 5 ∨ op = 6 ∨ op = 7 ∨ op = 8 ∨ op = 9 := by omega
        rcases hc9 with rfl | rfl | rfl | rfl | rfl | rfl | rfl | rfl | rfl <;> decide
      have hfb := fits_bad _ _ _ _ hk code n t z.length
      simp only [hfb]
      clear hfb
      unfold tellO
      generalize (tls op).1 = T at hk ⊢
      generalize (tls op).2.1 = N at hk ⊢
      generalize (tls op).2.2 = H at hk ⊢
      generalize kdOf op = kd at hk ⊢
      cases hb : tellBad kd code n t z.length with
      | true => simp
      | false =>
        simp only [Bool.false_eq_true, if_false]
        have hgz : goesE [] = 0 := rfl
        have hes : (⟨#[]⟩ : ByteArray).size = 0 := rfl
        unfold tellBad zeroB at hb
        have e4 : (⟨#[]⟩ : ByteArray).toList.isEmpty = true := by rw [ByteArray.toList_eq]; rfl
        rw [e4] at hb
        by_cases hc : code = 0
        · subst hc
          rcases hk with h | h | h | h <;> (simp only [Prod.mk.injEq] at h; obtain ⟨rfl, rfl, rfl, rfl⟩ := h; simp at hb)
          · obtain ⟨⟨rfl, h2⟩, h3⟩ := hb
            obtain rfl := empty_of (by simpa using h2)
            obtain rfl : z = [] := by simpa using h3
            simp [hgz, hes, bodyE, bodyB, hitsB]
          · obtain ⟨rfl, h3⟩ := hb
            obtain rfl : z = [] := by simpa using h3
            by_cases hs : 65536 < t.size
            · have d : decide (65536 < (t.size : Int)) = true := by simp; omega
              simp [hs, d, bodyE, rf]
            · have d : decide (65536 < (t.size : Int)) = false := by simp; omega
              simp [hs, d, bodyE, bodyB, rf, hgz, hitsB]
          · obtain ⟨h2, h3⟩ := hb
            obtain rfl := empty_of (by simpa using h2)
            obtain rfl : z = [] := by simpa using h3
            by_cases hn : n < 0
            · simp [hn, bodyE, rf]
            · simp [hn, hes, bodyE, bodyB, rf, hgz, hitsB]
          · obtain ⟨rfl, h2⟩ := hb
            obtain rfl := empty_of (by simpa using h2)
            by_cases hl : 65536 < z.length
            · simp [hes, hl, goesE, bodyE]
            · by_cases hg : hitsE z z.length 0 = 0
              · simp [hes, hl, goesE, bodyE, bodyB, hg]
              · simp [hes, hl, goesE, bodyE, hg]
        · have hcb : (code != 0) = true := by rw [bne_iff_ne]; exact hc
          rw [hcb] at hb
          simp at hb
          obtain ⟨⟨⟨rfl, h2⟩, h3⟩, _⟩ := hb
          obtain rfl := empty_of (by simpa using h2)
          obtain rfl : z = [] := by simpa using h3
          simp [hc, hgz, hes]
  · simp only [if_pos hop]
    simp
end Go.Proofs.Ytabhjkaheghbhaa

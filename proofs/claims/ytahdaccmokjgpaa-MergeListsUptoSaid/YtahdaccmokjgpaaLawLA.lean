/-
  WALKS: places, by the law's own functions.
-/
import Derived.Test.YtahdaccmokjgpaaMrgZ
import Derived.Test.YtahdaccmokjgpaaMerge
namespace Go.Proofs.Ytahdaccmokjgpaa
open Go.RowKit ArgK
set_option linter.unusedVariables false

set_option maxRecDepth 100000 in
set_option maxHeartbeats 1000000 in
theorem at_calls (a b : Ent) (w : World) : Calls Try.prog 42 #[a.val, b.val] w fun e w' => e = .returned (.bool (decide (eat a b))) ∧ Below w.heap.size w w' := by
  have hE : decide (eat a b) = (decide (a.v = b.v) && (decide (a.c = b.c) && decide (a.i = b.i))) := by
    unfold eat
    rw [Bool.eq_iff_iff]
    simp only [decide_eq_true_eq, Bool.and_eq_true]
    exact decide_eq_true_iff
  obtain ⟨r, hr⟩ : ∃ r, decide (eat a b) = r := ⟨_, rfl⟩
  rw [hr] at hE ⊢
  clear hr
  obtain ⟨v, c, i, s, d⟩ := a
  obtain ⟨v', c', i', s', d'⟩ := b
  simp only [Ent.val] at hE ⊢
  have hE2 : Hid (r = ((v == v') && (decide (c = c') && (i == i')))) := Lib.hid (by rw [hE]; rfl)
  clear hE
  have HE := hE2
  clear hE2
  by_cases h1 : v = v'
  · by_cases h2 : c = c'
    · subst h1 h2
      go_enter Try.func42, Try.ntmps42
      go_wp2
      go_ret
      exact ⟨by rw [HE.out]; simp, ((Below.refl _ w).alloc (Nat.le_refl _) _).alloc (by simp) _⟩
    · have h2b : (c.toList == c'.toList) = false := beq_eq_false_iff_ne.2 (fun e => h2 (toList_inj e))
      have h2e : ¬ (c.toList = c'.toList) := fun e => h2 (toList_inj e)
      subst h1
      have H2 := Lib.hid h2
      clear h2
      go_enter Try.func42, Try.ntmps42
      go_wp2
      go_ret
      exact ⟨by rw [HE.out]; simp [H2.out], ((Below.refl _ w).alloc (Nat.le_refl _) _).alloc (by simp) _⟩
  · have h1b : (v == v') = false := by simp [h1]
    go_enter Try.func42, Try.ntmps42
    go_wp2
    go_ret
    exact ⟨by rw [HE.out, h1b]; rfl, ((Below.refl _ w).alloc (Nat.le_refl _) _).alloc (by simp) _⟩

set_option maxRecDepth 100000 in
set_option maxHeartbeats 1000000 in
theorem less_calls (a b : Ent) (w : World) : Calls Try.prog 33 #[a.val, b.val] w fun e w' => e = .returned (.bool (decide (eless a b))) ∧ Below w.heap.size w w' := by
  have hcmp : decide (eless a b) = if a.v = b.v then (if a.c = b.c then decide (a.i < b.i) else sless a.c b.c) else decide (a.v < b.v) := by
    rw [Bool.eq_iff_iff, decide_eq_true_iff]
    unfold eless
    by_cases h1 : a.v = b.v
    · rw [if_pos h1]
      by_cases h2 : a.c = b.c
      · rw [if_pos h2, h1, h2, sless_irrefl, decide_eq_true_iff]
        constructor
        · rintro (h | ⟨_, h | ⟨_, h⟩⟩)
          · omega
          · cases h
          · exact h
        · exact fun h => .inr ⟨rfl, .inr ⟨rfl, h⟩⟩
      · rw [if_neg h2]
        constructor
        · rintro (h | ⟨_, h | ⟨h, _⟩⟩)
          · omega
          · exact h
          · exact absurd h h2
        · exact fun h => .inr ⟨h1, .inl h⟩
    · rw [if_neg h1, decide_eq_true_iff]
      constructor
      · rintro (h | ⟨h, _⟩)
        · exact h
        · exact absurd h h1
      · exact fun h => .inl h
  obtain ⟨r, hr⟩ : ∃ r, decide (eless a b) = r := ⟨_, rfl⟩
  rw [hr] at hcmp ⊢
  clear hr
  obtain ⟨v, c, i, s, d⟩ := a
  obtain ⟨v', c', i', s', d'⟩ := b
  simp only [Ent.val] at hcmp ⊢
  have HE := Lib.hid hcmp
  clear hcmp
  by_cases h1 : v = v'
  · subst h1
    by_cases h2 : c = c'
    · subst h2
      go_enter Try.func33, Try.ntmps33
      go_wp2
      go_ret
      exact ⟨by rw [HE.out]; simp, ((Below.refl _ w).alloc (Nat.le_refl _) _).alloc (by simp) _⟩
    · have h2b : (c.toList == c'.toList) = false := beq_eq_false_iff_ne.2 (fun e => h2 (toList_inj e))
      have h2e : ¬ (c.toList = c'.toList) := fun e => h2 (toList_inj e)
      have h2c : (!c.toList == c'.toList) = true := by rw [h2b]; rfl
      have H2 := Lib.hid h2
      clear h2
      go_enter Try.func33, Try.ntmps33
      go_wp2
      go_ret
      exact ⟨by rw [HE.out]; simp [H2.out]; rfl, ((Below.refl _ w).alloc (Nat.le_refl _) _).alloc (by simp) _⟩
  · have h1b : (v != v') = true := by simp [h1]
    have H1 := Lib.hid h1
    clear h1
    go_enter Try.func33, Try.ntmps33
    go_wp2
    go_ret
    exact ⟨by rw [HE.out]; simp [H1.out], ((Below.refl _ w).alloc (Nat.le_refl _) _).alloc (by simp) _⟩
end Go.Proofs.Ytahdaccmokjgpaa

/-
  SORTED FILES: the order, by the program and by the document; whether an entry goes.
-/
import Derived.Test.YtihgjihdmlomaaaDoorBkA
namespace Go.Proofs.YtihgjihdmlomaaaDoor
open Go.RowKit
set_option linter.unusedVariables false

theorem cmpB_eq : ∀ a b : List UInt8, Lib.compareBytes a b = if Op.bytesLess a b then -1 else if Op.bytesLess b a then 1 else 0
  | [], [] => rfl
  | [], _ :: _ => rfl
  | _ :: _, [] => rfl
  | a :: x, b :: y => by
    rw [Lib.compareBytes, cmpB_eq x y]
    simp only [Op.bytesLess, Bool.or_eq_true, Bool.and_eq_true, decide_eq_true_eq, beq_iff_eq]
    by_cases h1 : a < b
    · simp [h1]
    · by_cases h2 : b < a
      · have h3 : a ≠ b := fun e => by subst e; exact h1 h2
        simp [h1, h2, h3]
      · obtain rfl : a = b := UInt8.le_antisymm (UInt8.not_lt.1 h2) (UInt8.not_lt.1 h1)
        simp [h1]

theorem cmpB_S (a b : ByteArray) : Lib.compareBytes a.data.toList b.data.toList = cmpS a b := by
  rw [cmpB_eq]
  unfold cmpS sless
  rw [ByteArray.toList_eq, ByteArray.toList_eq]

set_option maxRecDepth 100000 in
set_option maxHeartbeats 1000000 in
theorem StrCompare_calls (a b : ByteArray) (w : World) : Calls Tryd.prog 56 #[.string a, .string b] w fun e w' => e = .returned (.int .i64 (cmpS a b)) ∧ w' = w := by
  have hc : Calls Tryd.prog 79 #[.string a, .string b] w fun e w' => e = .returned (.int .i64 (cmpS a b)) ∧ w' = w := by
    go_enter Tryd.func79, Tryd.ntmps79
    go_wp2
    rw [run_callFunc_extern Tryd.func99 (by kernel_rfl) (by kernel_rfl) (by kernel_rfl) (e := Extern.BytealgCompare.compare) (by kernel_rfl)]
    rw [Lib.run_compareString, cmpB_S]
    simp only [Result.andThen]
    rw [Oper.upon_value]
    go_wp2
    go_ret
    exact ⟨rfl, rfl⟩
  go_enter Tryd.func56, Tryd.ntmps56
  go_wp2_with fail
  refine hc.mono ?_
  rintro e w1 ⟨rfl, rfl⟩
  go_wp2
  go_ret
  exact ⟨rfl, rfl⟩

set_option maxRecDepth 100000 in
set_option maxHeartbeats 1000000 in
theorem Compare_calls (a b : Ent) (w : World) : Calls Tryd.prog 33 #[a.val, b.val] w fun e w' => e = .returned (.int .i64 (cmpE a b)) ∧ Below w.heap.size w w' := by
  have hB : ∀ o1 o2 : Obj, Below w.heap.size w ((w.alloc o1).alloc o2) := fun o1 o2 => ((Below.refl _ w).alloc (Nat.le_refl _) o1).alloc (by simp) o2
  obtain ⟨r, hr⟩ : ∃ r, cmpE a b = r := ⟨_, rfl⟩
  rw [hr]
  unfold cmpE at hr
  obtain ⟨v, c, i, s, d⟩ := a
  obtain ⟨v', c', i', s', d'⟩ := b
  simp only [Ent.val] at hr ⊢
  by_cases h1 : v < v'
  · obtain rfl : r = -1 := by rw [← hr]; unfold cmpI; simp [h1]
    have hne : (v != v') = true := by rw [bne_iff_ne]; omega
    clear hr
    go_enter Tryd.func33, Tryd.ntmps33
    go_wp2
    go_ret
    exact ⟨rfl, hB _ _⟩
  by_cases h2 : v' < v
  · obtain rfl : r = 1 := by rw [← hr]; unfold cmpI; simp [h1, h2]
    have hne : (v != v') = true := by rw [bne_iff_ne]; omega
    clear hr
    go_enter Tryd.func33, Tryd.ntmps33
    go_wp2
    go_ret
    exact ⟨rfl, hB _ _⟩
  obtain rfl : v = v' := by omega
  have hI : cmpI v v = 0 := by unfold cmpI; simp
  rw [hI] at hr
  simp only [ne_eq, not_true_eq_false, if_false] at hr
  by_cases hc : c = c'
  · subst hc
    have hS : cmpS c c = 0 := by unfold cmpS; rw [sless_irrefl]; simp
    rw [hS] at hr
    simp only [not_true_eq_false, if_false] at hr
    by_cases h3 : i < i'
    · obtain rfl : r = -1 := by rw [← hr]; unfold cmpI; simp [h3]
      clear hr hI hS
      go_enter Tryd.func33, Tryd.ntmps33
      go_wp2
      go_ret
      exact ⟨rfl, hB _ _⟩
    by_cases h4 : i' < i
    · obtain rfl : r = 1 := by rw [← hr]; unfold cmpI; simp [h3, h4]
      clear hr hI hS
      go_enter Tryd.func33, Tryd.ntmps33
      go_wp2
      go_ret
      exact ⟨rfl, hB _ _⟩
    obtain rfl : r = 0 := by rw [← hr]; unfold cmpI; simp [h3, h4]
    clear hr hI hS
    go_enter Tryd.func33, Tryd.ntmps33
    go_wp2
    go_ret
    exact ⟨rfl, hB _ _⟩
  · have hS : ¬ cmpS c c' = 0 := by
      unfold cmpS
      intro h
      cases h5 : sless c c'
      · cases h6 : sless c' c
        · exact hc (sless_total h5 h6)
        · rw [h5, h6] at h; simp at h
      · rw [h5] at h; simp at h
    rw [if_pos hS] at hr
    have h2b : (c.toList == c'.toList) = false := beq_eq_false_iff_ne.2 (fun e => hc (toList_inj e))
    have h2c : (!c.toList == c'.toList) = true := by rw [h2b]; rfl
    have HR := Lib.hid hr
    clear hr hI hS hc
    go_enter Tryd.func33, Tryd.ntmps33
    go_wp2_with fail
    refine (StrCompare_calls c c' _).mono ?_
    rintro e w1 ⟨rfl, rfl⟩
    go_wp2
    go_ret
    exact ⟨by rw [HR.out]; rfl, hB _ _⟩

set_option maxRecDepth 100000 in
set_option maxHeartbeats 1000000 in
theorem Less_calls (a b : Ent) (w : World) : Calls Tryd.prog 54 #[a.val, b.val] w fun e w' => e = .returned (.bool (decide (eless a b))) ∧ Below w.heap.size w w' := by
  have hcmp : decide (eless a b) = if a.v = b.v then (if a.c = b.c then decide (a.i < b.i) else sless a.c b.c) else decide (a.v < b.v) := by
    rw [Bool.eq_iff_iff, decide_eq_true_iff]
    unfold eless
    by_cases h1 : a.v = b.v
    · rw [if_pos h1]
      by_cases h2 : a.c = b.c
      · rw [if_pos h2, h1, h2, sless_irrefl, decide_eq_true_iff]
        constructor
        · rintro (h | ⟨_, h | ⟨_, h⟩⟩)
          · omega
          · cases h
          · exact h
        · exact fun h => .inr ⟨rfl, .inr ⟨rfl, h⟩⟩
      · rw [if_neg h2]
        constructor
        · rintro (h | ⟨_, h | ⟨h, _⟩⟩)
          · omega
          · exact h
          · exact absurd h h2
        · exact fun h => .inr ⟨h1, .inl h⟩
    · rw [if_neg h1, decide_eq_true_iff]
      constructor
      · rintro (h | ⟨h, _⟩)
        · exact h
        · exact absurd h h1
      · exact fun h => .inl h
  obtain ⟨r, hr⟩ : ∃ r, decide (eless a b) = r := ⟨_, rfl⟩
  rw [hr] at hcmp ⊢
  clear hr
  obtain ⟨v, c, i, s, d⟩ := a
  obtain ⟨v', c', i', s', d'⟩ := b
  simp only [Ent.val] at hcmp ⊢
  have HE := Lib.hid hcmp
  clear hcmp
  by_cases h1 : v = v'
  · subst h1
    by_cases h2 : c = c'
    · subst h2
      go_enter Tryd.func54, Tryd.ntmps54
      go_wp2
      go_ret
      exact ⟨by rw [HE.out]; simp, ((Below.refl _ w).alloc (Nat.le_refl _) _).alloc (by simp) _⟩
    · have h2b : (c.toList == c'.toList) = false := beq_eq_false_iff_ne.2 (fun e => h2 (toList_inj e))
      have h2e : ¬ (c.toList = c'.toList) := fun e => h2 (toList_inj e)
      have h2c : (!c.toList == c'.toList) = true := by rw [h2b]; rfl
      have H2 := Lib.hid h2
      clear h2
      go_enter Tryd.func54, Tryd.ntmps54
      go_wp2
      go_ret
      exact ⟨by rw [HE.out]; simp [H2.out]; rfl, ((Below.refl _ w).alloc (Nat.le_refl _) _).alloc (by simp) _⟩
  · have h1b : (v != v') = true := by simp [h1]
    have H1 := Lib.hid h1
    clear h1
    go_enter Tryd.func54, Tryd.ntmps54
    go_wp2
    go_ret
    exact ⟨by rw [HE.out]; simp [H1.out], ((Below.refl _ w).alloc (Nat.le_refl _) _).alloc (by simp) _⟩

set_option maxRecDepth 100000 in
set_option maxHeartbeats 1000000 in
theorem less_calls (a b : Ent) (w : World) : Calls Tryd.prog 22 #[a.val, b.val] w fun e w' => e = .returned (.bool (decide (eless a b))) ∧ Below w.heap.size w w' := by
  have hcmp : decide (eless a b) = if a.v = b.v then (if a.c = b.c then decide (a.i < b.i) else sless a.c b.c) else decide (a.v < b.v) := by
    rw [Bool.eq_iff_iff, decide_eq_true_iff]
    unfold eless
    by_cases h1 : a.v = b.v
    · rw [if_pos h1]
      by_cases h2 : a.c = b.c
      · rw [if_pos h2, h1, h2, sless_irrefl, decide_eq_true_iff]
        constructor
        · rintro (h | ⟨_, h | ⟨_, h⟩⟩)
          · omega
          · cases h
          · exact h
        · exact fun h => .inr ⟨rfl, .inr ⟨rfl, h⟩⟩
      · rw [if_neg h2]
        constructor
        · rintro (h | ⟨_, h | ⟨h, _⟩⟩)
          · omega
          · exact h
          · exact absurd h h2
        · exact fun h => .inr ⟨h1, .inl h⟩
    · rw [if_neg h1, decide_eq_true_iff]
      constructor
      · rintro (h | ⟨h, _⟩)
        · exact h
        · exact absurd h h1
      · exact fun h => .inl h
  obtain ⟨r, hr⟩ : ∃ r, decide (eless a b) = r := ⟨_, rfl⟩
  rw [hr] at hcmp ⊢
  clear hr
  obtain ⟨v, c, i, s, d⟩ := a
  obtain ⟨v', c', i', s', d'⟩ := b
  simp only [Ent.val] at hcmp ⊢
  have HE := Lib.hid hcmp
  clear hcmp
  by_cases h1 : v = v'
  · subst h1
    by_cases h2 : c = c'
    · subst h2
      go_enter Tryd.func22, Tryd.ntmps22
      go_wp2
      go_ret
      exact ⟨by rw [HE.out]; simp, ((Below.refl _ w).alloc (Nat.le_refl _) _).alloc (by simp) _⟩
    · have h2b : (c.toList == c'.toList) = false := beq_eq_false_iff_ne.2 (fun e => h2 (toList_inj e))
      have h2e : ¬ (c.toList = c'.toList) := fun e => h2 (toList_inj e)
      have h2c : (!c.toList == c'.toList) = true := by rw [h2b]; rfl
      have H2 := Lib.hid h2
      clear h2
      go_enter Tryd.func22, Tryd.ntmps22
      go_wp2
      go_ret
      exact ⟨by rw [HE.out]; simp [H2.out]; rfl, ((Below.refl _ w).alloc (Nat.le_refl _) _).alloc (by simp) _⟩
  · have h1b : (v != v') = true := by simp [h1]
    have H1 := Lib.hid h1
    clear h1
    go_enter Tryd.func22, Tryd.ntmps22
    go_wp2
    go_ret
    exact ⟨by rw [HE.out]; simp [H1.out], ((Below.refl _ w).alloc (Nat.le_refl _) _).alloc (by simp) _⟩
end Go.Proofs.YtihgjihdmlomaaaDoor

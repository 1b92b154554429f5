/-
  PLAIN LAWS on numbers in bytes of seven bits (no program in sight).
-/
namespace Go.Proofs.YtihgjihdmlomaaaDoor

/-- v in bytes of seven bits, the lowest first; f more at the most. -/
def varF : Nat → Nat → List UInt8
  | 0, v => [UInt8.ofNat v]
  | f + 1, v => if v < 128 then [UInt8.ofNat v] else UInt8.ofNat (v % 128 + 128) :: varF f (v / 128)
def varB (v : Nat) : List UInt8 := varF 9 v
theorem varF_low (f v : Nat) (h : v < 128) : varF f v = [UInt8.ofNat v] := by
  cases f with
  | zero => rfl
  | succ f => simp [varF, h]
theorem varF_high (f v : Nat) (h : ¬ v < 128) : varF (f + 1) v = UInt8.ofNat (v % 128 + 128) :: varF f (v / 128) := by simp [varF, h]

/-- What reading such a number answers: behind k bytes, which made v; a: where it began. -/
def scanV (a : Nat) : Nat → Nat → List UInt8 → Nat × Int × Int
  | _, _, [] => (0, 0, 31)
  | k, v, c :: r =>
    if k = 9 ∧ 1 < c.toNat then (0, 0, 30)
    else if c.toNat < 128 then (if c.toNat = 0 ∧ 0 < k then (0, 0, 32) else (v + c.toNat % 128 * 2 ^ (7 * k), ((a + k + 1 : Nat) : Int), 0))
    else scanV a (k + 1) (v + c.toNat % 128 * 2 ^ (7 * k)) r
def varR (b : List UInt8) (at_ : Int) : Nat × Int × Int :=
  if at_ < 0 ∨ (b.length : Int) < at_ then (0, 0, 13) else scanV at_.toNat 0 0 (b.drop at_.toNat)

theorem drop_cons (l : List UInt8) (i : Nat) (h : i < l.length) : l.drop i = l.getD i 0 :: l.drop (i + 1) := by
  rw [List.drop_eq_getElem_cons h]
  simp [List.getD, h]

theorem var_bound (k v c : Nat) (hk : k ≤ 9) (hv : v < 2 ^ (7 * k)) (hc : c < 128) (h9 : k = 9 → c ≤ 1) :
    c * 2 ^ (7 * k) < 18446744073709551616 ∧ v + c * 2 ^ (7 * k) < 18446744073709551616 ∧ (k < 9 → v + c * 2 ^ (7 * k) < 2 ^ (7 * (k + 1))) := by
  have h1 : c * 2 ^ (7 * k) ≤ 127 * 2 ^ (7 * k) := Nat.mul_le_mul_right _ (by omega)
  have e : (2 : Nat) ^ (7 * (k + 1)) = 128 * 2 ^ (7 * k) := by rw [show 7 * (k + 1) = 7 * k + 7 by omega, Nat.pow_add]; omega
  by_cases h : k = 9
  · subst h
    have h3 : c * 2 ^ 63 ≤ 1 * 2 ^ 63 := Nat.mul_le_mul_right _ (h9 rfl)
    have h4 : (2 : Nat) ^ (7 * 9) = 9223372036854775808 := by decide
    have h5 : (2 : Nat) ^ 63 = 9223372036854775808 := by decide
    rw [h4] at hv ⊢
    rw [h5] at h3
    refine ⟨by omega, by omega, fun h => absurd h (by omega)⟩
  · have h2 : (2 : Nat) ^ (7 * k) ≤ 2 ^ 56 := Nat.pow_le_pow_right (by omega) (by omega)
    have h4 : (2 : Nat) ^ 56 = 72057594037927936 := by decide
    generalize 2 ^ (7 * k) = t at *
    rw [h4] at h2
    refine ⟨by omega, by omega, fun _ => by omega⟩

theorem div_bound (j v : Nat) (hj : j < 9) (h : v < 2 ^ (64 - 7 * j)) : v / 128 < 2 ^ (64 - 7 * (j + 1)) := by
  have e : (2 : Nat) ^ (64 - 7 * j) = 2 ^ (64 - 7 * (j + 1)) * 128 := by
    rw [show 64 - 7 * j = (64 - 7 * (j + 1)) + 7 by omega, Nat.pow_add]
  rw [e] at h
  exact (Nat.div_lt_iff_lt_mul (by omega)).2 h
theorem low_at_9 (v : Nat) (h : v < 2 ^ (64 - 7 * 9)) : v < 128 := by
  have : (2 : Nat) ^ (64 - 7 * 9) = 2 := by decide
  omega
end Go.Proofs.YtihgjihdmlomaaaDoor

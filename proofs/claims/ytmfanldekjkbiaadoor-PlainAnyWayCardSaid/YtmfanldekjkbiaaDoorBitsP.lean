/-
  PLAIN LAWS on the bits of a text (no program in sight).
-/
namespace Go.Proofs.YtmfanldekjkbiaaDoor
set_option linter.unusedVariables false

/-- Bit i of a text. -/
def bitB (l : List UInt8) (i : Nat) : Bool := (l.getD (i / 8) 0).toNat / 2 ^ (7 - i % 8) % 2 == 1

theorem bitB_toNat (l : List UInt8) (i : Nat) : (bitB l i).toNat = (l.getD (i / 8) 0).toNat / 2 ^ (7 - i % 8) % 2 := by
  unfold bitB
  rcases Nat.mod_two_eq_zero_or_one ((l.getD (i / 8) 0).toNat / 2 ^ (7 - i % 8)) with h | h <;> rw [h] <;> rfl

/-- Bits, the first the highest, as a number. -/
def numOf (xs : List Bool) : Nat := xs.foldl (fun v b => 2 * v + b.toNat) 0

theorem numOf_snoc (xs : List Bool) (b : Bool) : numOf (xs ++ [b]) = 2 * numOf xs + b.toNat := by simp [numOf, List.foldl_append]

theorem foldl_two (xs : List Bool) (v : Nat) : xs.foldl (fun v b => 2 * v + b.toNat) v = v * 2 ^ xs.length + numOf xs := by
  induction xs generalizing v with
  | nil => simp [numOf]
  | cons b xs ih =>
    simp only [List.foldl_cons, numOf, List.length_cons]
    rw [ih, ih (2 * 0 + b.toNat), Nat.pow_succ]
    simp only [Nat.mul_zero, Nat.zero_add]
    rw [Nat.add_mul, Nat.add_assoc, Nat.mul_comm 2 v, Nat.mul_assoc, Nat.mul_comm 2]

theorem numOf_append (xs ys : List Bool) : numOf (xs ++ ys) = numOf xs * 2 ^ ys.length + numOf ys := by
  have := foldl_two ys (numOf xs)
  rw [← this]; simp [numOf, List.foldl_append]

theorem numOf_lt (xs : List Bool) : numOf xs < 2 ^ xs.length := by
  induction xs with
  | nil => simp [numOf]
  | cons b xs ih =>
    have := numOf_append [b] xs
    simp only [List.singleton_append] at this
    rw [this, List.length_cons, Nat.pow_succ]
    have hb : numOf [b] ≤ 1 := by cases b <;> decide
    have : numOf [b] * 2 ^ xs.length ≤ 1 * 2 ^ xs.length := Nat.mul_le_mul_right _ hb
    omega

/-- n bits of a text from one on. -/
def bitsOf (l : List UInt8) (f n : Nat) : List Bool := (List.range n).map fun i => bitB l (f + i)

theorem bitsOf_length (l : List UInt8) (f n : Nat) : (bitsOf l f n).length = n := by simp [bitsOf]

theorem bitsOf_succ (l : List UInt8) (f n : Nat) : bitsOf l f (n + 1) = bitsOf l f n ++ [bitB l (f + n)] := by simp [bitsOf, List.range_succ]

theorem bitsOf_add (l : List UInt8) (f k n : Nat) : bitsOf l f (k + n) = bitsOf l f k ++ bitsOf l (f + k) n := by
  induction n with
  | zero => simp [bitsOf]
  | succ n ih => rw [← Nat.add_assoc, bitsOf_succ, ih, bitsOf_succ, List.append_assoc, Nat.add_assoc]

theorem bitsOf_take (l : List UInt8) (f n k : Nat) (h : k ≤ n) : bitsOf l f k = (bitsOf l f n).take k := by
  rw [show n = k + (n - k) by omega, bitsOf_add, List.take_append_of_le_length (by rw [bitsOf_length]; omega), List.take_of_length_le (by rw [bitsOf_length]; omega)]
end Go.Proofs.YtmfanldekjkbiaaDoor

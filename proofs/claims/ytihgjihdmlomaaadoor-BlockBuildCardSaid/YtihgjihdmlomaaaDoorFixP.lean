/-
  PLAIN LAWS on numbers in bytes (no program in sight).
-/
namespace Go.Proofs.YtihgjihdmlomaaaDoor

/-- The byte of v whose lowest bit is bit 8 k. -/
def byteAt (v k : Nat) : UInt8 := UInt8.ofNat (v / 2 ^ (8 * k))
/-- v in n bytes, the greatest first. -/
def fixedB (v n : Nat) : List UInt8 := (List.range n).map fun i => byteAt v (n - 1 - i)
theorem fixedB_length (v n : Nat) : (fixedB v n).length = n := by simp [fixedB]
theorem fixedB_get (v n i : Nat) (h : i < n) : (fixedB v n).getD i 0 = byteAt v (n - 1 - i) := by simp [fixedB, List.getD, h]
theorem byteAt_toNat (v k : Nat) : (byteAt v k).toNat = v / 2 ^ (8 * k) % 256 := by simp [byteAt]
theorem byteAt_int (v k : Nat) : ((byteAt v k).toNat : Int) = (v : Int) / 2 ^ (8 * k) % 256 := by rw [byteAt_toNat]; simp

/-- L as far as k, zeros behind. -/
def fill (L : List UInt8) (k : Nat) : List UInt8 := L.take k ++ List.replicate (L.length - k) 0
theorem fill_zero (L : List UInt8) : fill L 0 = List.replicate L.length 0 := by simp [fill]
theorem fill_all (L : List UInt8) : fill L L.length = L := by simp [fill]
theorem fill_length (L : List UInt8) (k : Nat) (h : k ≤ L.length) : (fill L k).length = L.length := by simp [fill]; omega
theorem fill_set (L : List UInt8) (k : Nat) (h : k < L.length) : (fill L k).set k (L.getD k 0) = fill L (k + 1) := by
  apply List.ext_getElem?
  intro i
  unfold fill
  have hd : L.getD k 0 = L[k] := by simp [List.getD, h]
  rw [hd]
  by_cases h1 : i = k
  · subst h1
    rw [List.getElem?_set_self (by simp; omega), List.getElem?_append_left (by simp; omega), List.getElem?_take]
    simp [h]
  · rw [List.getElem?_set_ne (by omega)]
    by_cases h2 : i < k
    · rw [List.getElem?_append_left (by simp; omega), List.getElem?_append_left (by simp; omega)]
      simp [h2, show i < k + 1 by omega]
    · rw [List.getElem?_append_right (by simp; omega), List.getElem?_append_right (by simp; omega)]
      simp [List.getElem?_replicate]
      have e1 : min k L.length = k := by omega
      have e2 : min (k + 1) L.length = k + 1 := by omega
      rw [e1, e2]
      by_cases h3 : i - k < L.length - k
      · rw [if_pos h3, if_pos (by omega)]
      · rw [if_neg h3, if_neg (by omega)]

/-- The number that bytes make, the greatest first, from r on. -/
def numB (r : Nat) (l : List UInt8) : Nat := l.foldl (fun r c => 256 * r + c.toNat) r
theorem numB_snoc (r : Nat) (l : List UInt8) (c : UInt8) : numB r (l ++ [c]) = 256 * numB r l + c.toNat := by simp [numB, List.foldl_append]
theorem numB_lt (l : List UInt8) : numB 0 l < 256 ^ l.length := by
  have key : ∀ (l : List UInt8) (r m : Nat), r < 256 ^ m → numB r l < 256 ^ (m + l.length) := by
    intro l
    induction l with
    | nil => intro r m h; simpa [numB] using h
    | cons c l ih =>
      intro r m h
      have hc := c.toNat_lt
      have := ih (256 * r + c.toNat) (m + 1) (by rw [Nat.pow_succ]; omega)
      rw [show m + 1 + l.length = m + (c :: l).length by simp; omega] at this
      exact this
  have := key l 0 0 (by simp)
  simpa using this
end Go.Proofs.YtihgjihdmlomaaaDoor

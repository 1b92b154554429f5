/-
  PLAIN LAWS on the ones of numbers and of chunks (no program in sight).
-/
import Derived.Test.YtldcfgifimdmmaaDoorDistP
import Derived.Test.YtldcfgifimdmmaaDoorJoinP
namespace Go.Proofs.YtldcfgifimdmmaaDoor
set_option linter.unusedVariables false

/-- The ones among the lowest n bits of v. -/
def popB (v : Nat) : Nat → Nat
  | 0 => 0
  | n + 1 => popB v n + (v.testBit n).toNat
theorem popB_le (v : Nat) : ∀ n, popB v n ≤ n
  | 0 => Nat.le_refl _
  | n + 1 => by
    have := popB_le v n
    have : (v.testBit n).toNat ≤ 1 := by cases v.testBit n <;> decide
    simp only [popB]; omega
theorem popB_stop (v t : Nat) (h : v < 2 ^ t) : ∀ n, popB v (t + n) = popB v t
  | 0 => rfl
  | n + 1 => by
    have : v.testBit (t + n) = false := Nat.testBit_lt_two_pow (Nat.lt_of_lt_of_le h (Nat.pow_le_pow_right (by omega) (by omega)))
    rw [← Nat.add_assoc, popB, popB_stop v t h n, this]; rfl
/-- The ones of a list of bits. -/
def ctr (bs : List Bool) : Nat := (bs.map Bool.toNat).sum
theorem ctr_snoc (bs : List Bool) (b : Bool) : ctr (bs ++ [b]) = ctr bs + b.toNat := by simp [ctr]
theorem popB_bitsN (v : Nat) : ∀ n, popB v n = ctr (bitsN v n)
  | 0 => rfl
  | n + 1 => by rw [bitsN_succ, popB, popB_bitsN v n]; simp [ctr]; omega
theorem bitsN_xor (x y n : Nat) : bitsN (x ^^^ y) n = List.zipWith (· ^^ ·) (bitsN x n) (bitsN y n) := by
  unfold bitsN
  apply List.ext_getElem
  · simp
  · intro i h1 h2
    simp [Nat.testBit_xor]
theorem bitsOf_xor (a b : List UInt8) (h : a.length = b.length) (f c : Nat) (hf : f + c ≤ 8 * a.length) : bitsOf (xorL a b) f c = List.zipWith (· ^^ ·) (bitsOf a f c) (bitsOf b f c) := by
  unfold bitsOf
  apply List.ext_getElem
  · simp
  · intro i h1 h2
    have hi : i < c := by simpa using h1
    simp [bitB_xor a b h (f + i) (by omega)]
theorem cnt_add (l : List UInt8) (f : Nat) : ∀ c, cnt l (f + c) = cnt l f + ctr (bitsOf l f c)
  | 0 => rfl
  | c + 1 => by rw [← Nat.add_assoc, cnt, cnt_add l f c, bitsOf_succ, ctr_snoc]; omega
/-- The distance of two chunks' values. -/
theorem far_chunk (a b : List UInt8) (h : a.length = b.length) (f c : Nat) (hf : f + c ≤ 8 * a.length) (hc : c ≤ 32) :
    cnt (xorL a b) (f + c) = cnt (xorL a b) f + popB (numOf (bitsOf a f c) ^^^ numOf (bitsOf b f c)) 32 := by
  have l1 := numOf_lt (bitsOf a f c)
  have l2 := numOf_lt (bitsOf b f c)
  rw [bitsOf_length] at l1 l2
  have hx := Nat.xor_lt_two_pow l1 l2
  have e1 := bitsN_numOf (bitsOf a f c)
  have e2 := bitsN_numOf (bitsOf b f c)
  rw [bitsOf_length] at e1 e2
  have hs := popB_stop _ c hx (32 - c)
  rw [show c + (32 - c) = 32 by omega] at hs
  rw [hs, popB_bitsN, bitsN_xor, e1, e2, ← bitsOf_xor a b h f c hf, cnt_add]
end Go.Proofs.YtldcfgifimdmmaaDoor

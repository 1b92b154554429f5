/-
  PLAIN LAWS on the check sum (no program in sight): bit by bit, half byte by half byte; sums go on; sums are linear.
-/
namespace Go.Proofs.YtihgjihdmlomaaaDoor.Crc

def P : Nat := 2197175160
def M : Nat := 4294967295
/-- One bit of the register. -/
def rb (x : Nat) : Nat := (x / 2) ^^^ (if x % 2 = 1 then P else 0)
def T : List Nat := [0, 274646895, 549293790, 820201905, 1098587580, 1361435347, 1640403810, 1905808397, 2197175160, 2460548119, 2722870694, 2987750089, 3280807620, 3553878443, 3811616794, 4084100981]
def half (v : Nat) : Nat := (v / 16) ^^^ T.getD (v % 16) 0
def rb4 (x : Nat) : Nat := rb (rb (rb (rb x)))
def rb8 (x : Nat) : Nat := rb4 (rb4 x)
def crc (r : Nat) (l : List UInt8) : Nat := l.foldl (fun r c => rb8 (r ^^^ c.toNat)) r
/-- The sum of a text that goes on from s. -/
def on (s : Nat) (l : List UInt8) : Nat := crc (s ^^^ M) l ^^^ M

theorem xor_mod_two (a b : Nat) : (a ^^^ b) % 2 = (a % 2 + b % 2) % 2 := by
  have h := Nat.testBit_xor a b 0
  simp only [Nat.testBit_zero] at h
  rcases Nat.mod_two_eq_zero_or_one a with ha | ha <;> rcases Nat.mod_two_eq_zero_or_one b with hb | hb <;> rcases Nat.mod_two_eq_zero_or_one (a ^^^ b) with hc | hc <;> simp [ha, hb, hc] at h ⊢

theorem xor_left_comm (a b c : Nat) : a ^^^ (b ^^^ c) = b ^^^ (a ^^^ c) := by rw [← Nat.xor_assoc, Nat.xor_comm a b, Nat.xor_assoc]
theorem xor_self_left (a b : Nat) : a ^^^ (a ^^^ b) = b := by rw [← Nat.xor_assoc, Nat.xor_self, Nat.zero_xor]

theorem rb_xor (a b : Nat) : rb (a ^^^ b) = rb a ^^^ rb b := by
  unfold rb
  rw [Nat.xor_div_two, xor_mod_two]
  rcases Nat.mod_two_eq_zero_or_one a with ha | ha <;> rcases Nat.mod_two_eq_zero_or_one b with hb | hb <;> simp [ha, hb, Nat.xor_assoc]
  · rw [Nat.xor_comm (b / 2) P]
  · rw [xor_left_comm P, Nat.xor_self, Nat.xor_zero]

theorem rb_even (x : Nat) : rb (2 * x) = x := by
  unfold rb
  have h : 2 * x % 2 = 0 := by omega
  have h2 : 2 * x / 2 = x := by omega
  simp [h, h2]

theorem rb4_xor (a b : Nat) : rb4 (a ^^^ b) = rb4 a ^^^ rb4 b := by simp only [rb4, rb_xor]
theorem rb8_xor (a b : Nat) : rb8 (a ^^^ b) = rb8 a ^^^ rb8 b := by simp only [rb8, rb4_xor]
theorem rb_zero : rb 0 = 0 := by decide
theorem rb8_zero : rb8 0 = 0 := by decide

theorem rb4_times (q : Nat) : rb4 (16 * q) = q := by
  unfold rb4
  rw [show 16 * q = 2 * (2 * (2 * (2 * q))) by omega, rb_even, rb_even, rb_even, rb_even]

theorem rb4_low (d : Nat) (h : d < 16) : rb4 d = T.getD d 0 := by
  have : ∀ i : Fin 16, rb4 i.val = T.getD i.val 0 := by decide +kernel
  exact this ⟨d, h⟩

theorem split16 (v : Nat) : v = (16 * (v / 16)) ^^^ (v % 16) := by
  have h : v = 2 ^ 4 * (v / 16) + v % 16 := by omega
  have h2 := Nat.two_pow_add_eq_or_of_lt (i := 4) (b := v % 16) (by omega) (v / 16)
  apply Nat.eq_of_testBit_eq
  intro i
  rw [Nat.testBit_xor]
  conv => lhs; rw [h, h2]
  rw [Nat.testBit_or]
  by_cases hi : i < 4
  · have : (2 ^ 4 * (v / 16)).testBit i = false := by
      rw [Nat.testBit_two_pow_mul]; simp; omega
    rw [show 16 * (v / 16) = 2 ^ 4 * (v / 16) by omega, this]; simp
  · have : (v % 16).testBit i = false := by
      apply Nat.testBit_lt_two_pow
      calc v % 16 < 2 ^ 4 := by omega
        _ ≤ 2 ^ i := Nat.pow_le_pow_right (by omega) (by omega)
    rw [this]; simp

theorem half_eq (v : Nat) : half v = rb4 v := by
  conv => rhs; rw [split16 v]
  rw [rb4_xor, rb4_times, rb4_low _ (by omega)]; rfl

theorem half_half (v : Nat) : half (half v) = rb8 v := by rw [half_eq, half_eq]; rfl

theorem rb_lt (x : Nat) (h : x < 4294967296) : rb x < 4294967296 := by
  unfold rb
  have : (if x % 2 = 1 then P else 0) < 2 ^ 32 := by split <;> decide
  exact Nat.xor_lt_two_pow (n := 32) (by omega) this
theorem rb4_lt (x : Nat) (h : x < 4294967296) : rb4 x < 4294967296 := rb_lt _ (rb_lt _ (rb_lt _ (rb_lt _ h)))
theorem rb8_lt (x : Nat) (h : x < 4294967296) : rb8 x < 4294967296 := rb4_lt _ (rb4_lt _ h)
theorem half_lt (x : Nat) (h : x < 4294967296) : half x < 4294967296 := by rw [half_eq]; exact rb4_lt x h
theorem xor_lt (a b : Nat) (ha : a < 4294967296) (hb : b < 4294967296) : a ^^^ b < 4294967296 := Nat.xor_lt_two_pow (n := 32) ha hb
theorem T_lt (d : Nat) (h : d < 16) : T.getD d 0 < 4294967296 := by rw [← rb4_low d h]; exact rb4_lt d (by omega)
theorem crc_lt (l : List UInt8) : ∀ r, r < 4294967296 → crc r l < 4294967296 := by
  induction l with
  | nil => exact fun r h => h
  | cons c l ih =>
    intro r h
    have hc := c.toNat_lt
    exact ih _ (rb8_lt _ (xor_lt _ _ h (by omega)))
theorem on_lt (s : Nat) (l : List UInt8) (h : s < 4294967296) : on s l < 4294967296 := xor_lt _ _ (crc_lt l _ (xor_lt _ _ h (by decide))) (by decide)

theorem crc_append (r : Nat) (a b : List UInt8) : crc r (a ++ b) = crc (crc r a) b := by simp [crc, List.foldl_append]
theorem crc_snoc (r : Nat) (a : List UInt8) (c : UInt8) : crc r (a ++ [c]) = rb8 (crc r a ^^^ c.toNat) := by simp [crc, List.foldl_append]
theorem xor_cancel (a b : Nat) : (a ^^^ b) ^^^ b = a := by rw [Nat.xor_assoc, Nat.xor_self, Nat.xor_zero]
theorem on_on (s : Nat) (a b : List UInt8) : on (on s a) b = on s (a ++ b) := by
  unfold on; rw [xor_cancel, crc_append]

/-- Turning all 32 bits. -/
theorem xor_M (a : Nat) (h : a < 4294967296) : a ^^^ M = 4294967295 - a := by
  have := Nat.xor_lt_two_pow (n := 32) h (show M < 2 ^ 32 by decide)
  have h2 : BitVec.ofNat 32 a ^^^ BitVec.allOnes 32 = ~~~ BitVec.ofNat 32 a := BitVec.xor_allOnes
  have h3 := congrArg BitVec.toNat h2
  simp only [BitVec.toNat_xor, BitVec.toNat_not, BitVec.toNat_ofNat, BitVec.toNat_allOnes] at h3
  rw [Nat.mod_eq_of_lt h] at h3
  exact h3
end Go.Proofs.YtihgjihdmlomaaaDoor.Crc

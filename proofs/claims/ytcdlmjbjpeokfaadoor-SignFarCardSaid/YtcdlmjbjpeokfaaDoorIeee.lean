/-
  PLAIN LAWS: floats that stand for whole numbers.
-/
import Derived.Laws.ComplexArith
namespace Go.Proofs.YtcdlmjbjpeokfaaDoor
open Go Ieee
set_option linter.unusedVariables false

theorem log2_pow (n k : Nat) (h : n ≠ 0) : (n * 2 ^ k).log2 = n.log2 + k := by
  have h1 := Nat.log2_self_le h
  have h2 := Nat.lt_log2_self (n := n)
  have h0 : n * 2 ^ k ≠ 0 := Nat.mul_ne_zero h (Nat.ne_of_gt (Nat.two_pow_pos k))
  refine (Nat.log2_eq_iff h0).2 ⟨?_, ?_⟩
  · rw [Nat.pow_add]
    exact Nat.mul_le_mul_right _ h1
  · rw [show n.log2 + k + 1 = (n.log2 + 1) + k by omega, Nat.pow_add]
    exact Nat.mul_lt_mul_of_pos_right h2 (Nat.two_pow_pos k)

/-- 1074, as a number that nothing reckons with. -/
noncomputable def KX : Nat := Classical.choose (⟨1074, rfl⟩ : ∃ k : Nat, (k : Int) = 1074)

theorem KX_eq : (KX : Int) = 1074 := Classical.choose_spec (⟨1074, rfl⟩ : ∃ k : Nat, (k : Int) = 1074)

/-- The word of a whole number. -/
def cw (s : Bool) (A : Nat) : Nat := double.word s (if A = 0 then 0 else (A.log2 + 1022) * 4503599627370496 + A * 2 ^ (52 - A.log2))

theorem kept_bounds {A : Nat} (h1 : 1 ≤ A) (h2 : A < 9007199254740992) : A.log2 ≤ 52 ∧ 4503599627370496 ≤ A * 2 ^ (52 - A.log2) ∧ A * 2 ^ (52 - A.log2) < 9007199254740992 := by
  have hA : A ≠ 0 := by omega
  have hl : A.log2 < 53 := (Nat.log2_lt hA).2 (by simpa using h2)
  have hk := log2_pow A (52 - A.log2) hA
  rw [show A.log2 + (52 - A.log2) = 52 by omega] at hk
  have h0 : A * 2 ^ (52 - A.log2) ≠ 0 := Nat.mul_ne_zero hA (Nat.ne_of_gt (Nat.two_pow_pos _))
  have := (Nat.log2_eq_iff h0).1 hk
  exact ⟨by omega, by simpa using this.1, by simpa using this.2⟩

theorem double_facts : double.signWeight = 9223372036854775808 ∧ double.binade = 4503599627370496 ∧ double.infRung = 9218868437227405312 ∧ double.leastPlace = -1074 := by decide +kernel

theorem word_read (s : Bool) (r : Nat) (h : r < 9223372036854775808) : double.word s r / 9223372036854775808 % 2 = (if s then 1 else 0) ∧ double.word s r % 9223372036854775808 = r := by
  unfold Format.word
  rw [double_facts.1]
  cases s
  · simp only [Bool.false_eq_true, if_false]
    omega
  · simp only [if_true]
    omega

theorem read_cw (s : Bool) {A : Nat} (h1 : 1 ≤ A) (h2 : A < 9007199254740992) : double.read (cw s A) = .number s (A * 2 ^ (52 - A.log2)) ((A.log2 : Int) - 52) := by
  obtain ⟨k1, k2, k3⟩ := kept_bounds h1 h2
  unfold cw
  rw [if_neg (by omega)]
  generalize A * 2 ^ (52 - A.log2) = K at k2 k3 ⊢
  generalize A.log2 = L at k1 ⊢
  obtain ⟨f1, f2, f3, f4⟩ := double_facts
  obtain ⟨e1, e2⟩ := word_read s ((L + 1022) * 4503599627370496 + K) (by omega)
  unfold Format.read
  rw [f1, f2, f3, f4, e1, e2]
  simp only
  rw [if_neg (by omega), if_pos (by omega)]
  have hs : ((if s = true then 1 else 0) == 1) = s := by cases s <;> rfl
  rw [hs]
  have a1 : 4503599627370496 + ((L + 1022) * 4503599627370496 + K) % 4503599627370496 = K := by omega
  have a2 : ((L + 1022) * 4503599627370496 + K) / 4503599627370496 - 1 = L + 1022 := by omega
  have a3 : (-1074 : Int) + ((L + 1022 : Nat) : Int) = (L : Int) - 52 := by omega
  rw [a1, a2, a3]

theorem read_cw0 (s : Bool) : double.read (cw s 0) = .number s 0 (-1074) := by cases s <;> decide +kernel

theorem cut_one (way : Toward) (s : Bool) (n : Nat) : way.cut s n 0 = n := by
  unfold Toward.cut
  simp only [Nat.zero_min, Nat.shiftLeft_zero, Nat.div_one, Nat.mod_one]
  cases way <;> simp

theorem cut_pow (way : Toward) (s : Bool) (n D : Nat) (h : D ≤ (n * 2 ^ D).log2 + 2) : way.cut s (n * 2 ^ D) D = n := by
  unfold Toward.cut
  have hp := Nat.two_pow_pos D
  simp only [Nat.min_eq_left h, Nat.shiftLeft_eq, Nat.one_mul, Nat.mul_div_cancel _ hp, Nat.mul_mod_left]
  have hz : (2 ^ D == 0) = false := by rw [beq_eq_false_iff_ne]; omega
  cases way <;> simp [hz]

theorem pow_canc {m A P Q d c : Nat} (e : m * 2 ^ P = A * 2 ^ Q) (h : d + Q = P + c) : m * 2 ^ d = A * 2 ^ c := by
  refine Nat.eq_of_mul_eq_mul_right (Nat.two_pow_pos P) ?_
  rw [Nat.mul_assoc, Nat.mul_comm (2 ^ d), ← Nat.mul_assoc, e, Nat.mul_assoc, Nat.mul_assoc, ← Nat.pow_add, ← Nat.pow_add, Nat.add_comm Q, h, Nat.add_comm P]

theorem pow_canc2 {m A P Q c D : Nat} (e : m * 2 ^ P = A * 2 ^ Q) (h : c + D + P = Q) : m = A * 2 ^ c * 2 ^ D := by
  refine Nat.eq_of_mul_eq_mul_right (Nat.two_pow_pos P) ?_
  rw [e, Nat.mul_assoc, Nat.mul_assoc, ← Nat.pow_add, ← Nat.pow_add, ← h, Nat.add_assoc]

theorem cut_key (s : Bool) {mag A P Q L M : Nat} {place : Int} (hL : A.log2 = L) (hM : mag.log2 = M) (hP : (P : Int) = place + 1074) (hQ : (Q : Int) = 1074) (e : mag * 2 ^ P = A * 2 ^ Q) (hl : M + P = L + Q) (k1 : L ≤ 52) :
    Toward.even.cut s (mag <<< (place - ((L : Int) - 52)).toNat) (((L : Int) - 52) - place).toNat = A * 2 ^ (52 - L) := by
  rcases Int.le_total ((L : Int) - 52) place with h | h
  · obtain ⟨d, hd⟩ : ∃ d : Nat, (place - ((L : Int) - 52)).toNat = d := ⟨_, rfl⟩
    have hz : (((L : Int) - 52) - place).toNat = 0 := by clear e; omega
    have hc : d + Q = P + (52 - L) := by clear e; omega
    rw [hz, hd, cut_one, Nat.shiftLeft_eq]
    exact pow_canc e hc
  · obtain ⟨D, hD⟩ : ∃ D : Nat, (((L : Int) - 52) - place).toNat = D := ⟨_, rfl⟩
    have hz : (place - ((L : Int) - 52)).toNat = 0 := by clear e; omega
    have hc : (52 - L) + D + P = Q := by clear e; omega
    have hmag := pow_canc2 e hc
    have hDM : D ≤ M + 2 := by clear e hmag; omega
    rw [hz, hD, Nat.shiftLeft_zero, hmag]
    refine cut_pow _ _ _ _ ?_
    rw [← hmag, hM]
    exact hDM

theorem nearest_cw (s : Bool) {mag : Nat} {place : Int} {A : Nat} (h1 : 1 ≤ A) (h2 : A < 9007199254740992) (hp : -1074 ≤ place) (e : mag * 2 ^ (place + 1074).toNat = A * 2 ^ KX) : double.nearest s mag place = cw s A := by
  have hK := KX_eq
  have hA : A ≠ 0 := by clear e; omega
  have hm : mag ≠ 0 := by
    intro h
    rw [h, Nat.zero_mul] at e
    exact Nat.mul_ne_zero hA (Nat.ne_of_gt (Nat.two_pow_pos KX)) e.symm
  obtain ⟨k1, k2, k3⟩ := kept_bounds h1 h2
  have hl := congrArg Nat.log2 e
  rw [log2_pow _ _ hm, log2_pow _ _ hA] at hl
  obtain ⟨f1, f2, f3, f4⟩ := double_facts
  have hf : (double.fractionBits : Int) = 52 := rfl
  have key := cut_key s (place := place) rfl rfl (by clear e hl; omega) hK e hl k1
  clear e
  have hlast : max (place + (mag.log2 : Int) - (double.fractionBits : Int)) double.leastPlace = (A.log2 : Int) - 52 := by
    rw [f4, hf]
    clear key f1 f2 f3 k2 k3
    omega
  unfold Format.nearest
  rw [if_neg hm]
  simp only [hlast]
  rw [key, f2, f3, f4]
  unfold cw
  rw [if_neg hA]
  have h3 : ((A.log2 : Int) - 52 - -1074).toNat = A.log2 + 1022 := by clear key; omega
  rw [h3]
  generalize A * 2 ^ (52 - A.log2) = K at k2 k3 ⊢
  rw [Nat.min_eq_left (by omega)]

/-- A datum that stands for a whole number. -/
def Rep (d : Datum) (n : Int) : Prop := ∃ s m p, d = .number s m p ∧ -1074 ≤ p ∧ signed s m (p + 1074).toNat = n * 2 ^ KX

/-- A word that does. -/
def IsW (x : Nat) (n : Int) : Prop := ∃ s, x = cw s n.natAbs ∧ (n < 0 → s = true) ∧ (0 < n → s = false)

theorem signed_eq (s : Bool) (m k : Nat) : signed s m k = (if s then -1 else 1) * (m : Int) * 2 ^ k := by
  unfold signed
  rw [Nat.shiftLeft_eq]
  cases s <;> simp [Int.neg_mul]

theorem signed_shift (s : Bool) (m k l : Nat) : signed s m (k + l) = signed s m k * 2 ^ l := by
  rw [signed_eq, signed_eq, Int.pow_add, ← Int.mul_assoc]

theorem IsW.rep {x : Nat} {n : Int} (h : IsW x n) (hn : n.natAbs < 9007199254740992) : Rep (double.read x) n := by
  have hK := KX_eq
  obtain ⟨s, rfl, h1, h2⟩ := h
  by_cases h0 : n = 0
  · subst h0
    refine ⟨s, 0, -1074, read_cw0 s, by decide, ?_⟩
    rw [signed_eq]
    simp
  · have hA : 1 ≤ n.natAbs := by omega
    obtain ⟨k1, _, _⟩ := kept_bounds hA hn
    refine ⟨s, _, _, read_cw s hA hn, by omega, ?_⟩
    rw [signed_eq, show ((n.natAbs.log2 : Int) - 52 + 1074).toNat = n.natAbs.log2 + 1022 by omega]
    have hs : (if s then (-1 : Int) else 1) * (n.natAbs : Int) = n := by
      rcases Int.lt_or_gt_of_ne h0 with h | h
      · rw [h1 h]; simp; omega
      · rw [h2 h]; simp; omega
    rw [Int.natCast_mul, ← Int.mul_assoc, hs, Int.mul_assoc, Int.natCast_pow]
    rw [show ((2 : Nat) : Int) = 2 by rfl, ← Int.pow_add, show 52 - n.natAbs.log2 + (n.natAbs.log2 + 1022) = KX by omega]

theorem pow_pos (k : Nat) : (0 : Int) < 2 ^ k := by
  have := Nat.two_pow_pos k
  have h : ((2 ^ k : Nat) : Int) = 2 ^ k := by rw [Int.natCast_pow]; rfl
  omega

theorem Rep.write {d : Datum} {n : Int} (h : Rep d n) (hn : n.natAbs < 9007199254740992) : IsW (double.write d) n := by
  have hK := KX_eq
  obtain ⟨s, m, p, rfl, hp, e⟩ := h
  rw [signed_eq] at e
  show IsW (double.nearest s m p) n
  have p1 := pow_pos (p + 1074).toNat
  have p2 := pow_pos KX
  by_cases h0 : n = 0
  · subst h0
    have hm : m = 0 := by
      rw [Int.zero_mul] at e
      rcases Int.mul_eq_zero.1 e with h | h
      · rcases Int.mul_eq_zero.1 h with h | h
        · cases s <;> simp at h
        · omega
      · omega
    subst hm
    exact ⟨s, by simp [Format.nearest, cw], by omega, by omega⟩
  · have hA : 1 ≤ n.natAbs := by omega
    have e' : m * 2 ^ (p + 1074).toNat = n.natAbs * 2 ^ KX := by
      have := congrArg Int.natAbs e
      rw [Int.natAbs_mul, Int.natAbs_mul, Int.natAbs_mul, Int.natAbs_pow, Int.natAbs_pow] at this
      cases s <;> simpa using this
    refine ⟨s, nearest_cw s hA hn hp e', fun h => ?_, fun h => ?_⟩
    · cases s with
      | true => rfl
      | false =>
        exfalso
        have h1 : 0 ≤ (1 : Int) * (m : Int) * 2 ^ (p + 1074).toNat := Int.mul_nonneg (by omega) (by omega)
        have h2 : n * 2 ^ KX < 0 := Int.mul_neg_of_neg_of_pos h p2
        simp only [Bool.false_eq_true, if_false] at e
        omega
    · cases s with
      | false => rfl
      | true =>
        exfalso
        have h1 : 0 ≤ (m : Int) * 2 ^ (p + 1074).toNat := Int.mul_nonneg (by omega) (by omega)
        have h2 : 0 < n * 2 ^ KX := Int.mul_pos h p2
        simp only [if_true] at e
        rw [Int.mul_assoc, Int.neg_mul, Int.one_mul] at e
        omega
end Go.Proofs.YtcdlmjbjpeokfaaDoor

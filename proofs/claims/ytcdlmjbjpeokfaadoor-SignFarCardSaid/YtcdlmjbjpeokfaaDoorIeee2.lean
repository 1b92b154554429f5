/-
  PLAIN LAWS: whole numbers as floats: sums, differences, products, comparisons.
-/
import Derived.Test.YtcdlmjbjpeokfaaDoorIeee
namespace Go.Proofs.YtcdlmjbjpeokfaaDoor
open Go Ieee
set_option linter.unusedVariables false

theorem Rep.sum {d e : Datum} {a b : Int} (h1 : Rep d a) (h2 : Rep e b) : ∃ c, d.sum e = some c ∧ Rep c (a + b) := by
  obtain ⟨s, m, i, rfl, hi, e1⟩ := h1
  obtain ⟨t, n, j, rfl, hj, e2⟩ := h2
  obtain ⟨base, hb⟩ : ∃ base, min i j = base := ⟨_, rfl⟩
  obtain ⟨T, hT⟩ : ∃ T, signed s m (i - base).toNat + signed t n (j - base).toNat = T := ⟨_, rfl⟩
  refine ⟨.number (if T = 0 then s && t else decide (T < 0)) T.natAbs base, ?_, _, _, _, rfl, by omega, ?_⟩
  · show some (Datum.number _ _ _) = _
    simp only [hb, hT]
  · have x1 : signed s m (i - base).toNat * 2 ^ (base + 1074).toNat = a * 2 ^ KX := by
      rw [← signed_shift, ← e1]; congr 1; omega
    have x2 : signed t n (j - base).toNat * 2 ^ (base + 1074).toNat = b * 2 ^ KX := by
      rw [← signed_shift, ← e2]; congr 1; omega
    have x3 : T * 2 ^ (base + 1074).toNat = (a + b) * 2 ^ KX := by rw [← hT, Int.add_mul, x1, x2, Int.add_mul]
    rw [signed_eq, ← x3]
    congr 1
    by_cases h0 : T = 0
    · subst h0; simp
    · rw [if_neg h0]
      by_cases hn : T < 0
      · rw [decide_eq_true hn]; simp; omega
      · rw [decide_eq_false hn]; simp; omega

theorem Rep.opp {d : Datum} {a : Int} (h : Rep d a) : Rep d.opposite (-a) := by
  obtain ⟨s, m, i, rfl, hi, e⟩ := h
  refine ⟨!s, m, i, rfl, hi, ?_⟩
  rw [signed_eq] at e ⊢
  rw [Int.neg_mul, ← e]
  cases s <;> simp [Int.neg_mul]

theorem IsW.add {x y : Nat} {a b : Int} (h1 : IsW x a) (h2 : IsW y b) (ha : a.natAbs < 9007199254740992) (hb : b.natAbs < 9007199254740992) (hs : (a + b).natAbs < 9007199254740992) : ∃ r, floatBits .add .f64 x y = some r ∧ IsW r (a + b) := by
  obtain ⟨c, hc, hr⟩ := (h1.rep ha).sum (h2.rep hb)
  refine ⟨double.write c, ?_, hr.write hs⟩
  show double.add x y = _
  unfold Format.add
  rw [hc]; rfl

theorem IsW.sub {x y : Nat} {a b : Int} (h1 : IsW x a) (h2 : IsW y b) (ha : a.natAbs < 9007199254740992) (hb : b.natAbs < 9007199254740992) (hs : (a - b).natAbs < 9007199254740992) : ∃ r, floatBits .sub .f64 x y = some r ∧ IsW r (a - b) := by
  obtain ⟨c, hc, hr⟩ := (h1.rep ha).sum (h2.rep hb).opp
  refine ⟨double.write c, ?_, hr.write hs⟩
  show double.sub x y = _
  unfold Format.sub
  rw [hc]; rfl

theorem IsW.mul {x y : Nat} {a b : Int} (h1 : IsW x a) (h2 : IsW y b) (ha : a.natAbs < 9007199254740992) (hb : b.natAbs < 9007199254740992) (hs : (a * b).natAbs < 9007199254740992) : ∃ r, floatBits .mul .f64 x y = some r ∧ IsW r (a * b) := by
  have hK := KX_eq
  obtain ⟨s, rfl, s1, s2⟩ := h1
  obtain ⟨t, rfl, t1, t2⟩ := h2
  have zero : ∀ (u : Bool) (p : Int), IsW (double.nearest u 0 p) 0 := fun u p => ⟨u, by simp [Format.nearest, cw], by omega, by omega⟩
  show ∃ r, double.mul _ _ = some r ∧ _
  unfold Format.mul
  by_cases ha0 : a = 0
  · subst ha0
    have hb' : ∃ m j, double.read (cw t b.natAbs) = .number t m j := by
      by_cases h : b = 0
      · subst h; exact ⟨_, _, read_cw0 t⟩
      · exact ⟨_, _, read_cw t (by omega) hb⟩
    obtain ⟨m, j, hb'⟩ := hb'
    refine ⟨double.nearest (s ^^ t) (0 * m) (-1074 + j), ?_, ?_⟩
    · rw [show (0 : Int).natAbs = 0 by rfl, read_cw0, hb']; rfl
    · rw [Nat.zero_mul, Int.zero_mul]; exact zero _ _
  · have ra := read_cw s (A := a.natAbs) (by omega) ha
    by_cases hb0 : b = 0
    · subst hb0
      refine ⟨double.nearest (s ^^ t) (a.natAbs * 2 ^ (52 - a.natAbs.log2) * 0) ((a.natAbs.log2 : Int) - 52 + -1074), ?_, ?_⟩
      · rw [show (0 : Int).natAbs = 0 by rfl, read_cw0, ra]; rfl
      · rw [Nat.mul_zero, Int.mul_zero]; exact zero _ _
    · have rb := read_cw t (A := b.natAbs) (by omega) hb
      obtain ⟨ka, _, _⟩ := kept_bounds (A := a.natAbs) (by omega) ha
      obtain ⟨kb, _, _⟩ := kept_bounds (A := b.natAbs) (by omega) hb
      have hAB : (a * b).natAbs = a.natAbs * b.natAbs := Int.natAbs_mul a b
      have hab : 1 ≤ (a * b).natAbs := by rw [hAB]; exact Nat.mul_pos (by omega) (by omega)
      refine ⟨cw (s ^^ t) (a * b).natAbs, ?_, s ^^ t, rfl, fun h => ?_, fun h => ?_⟩
      · rw [ra, rb]
        show some (double.nearest (s ^^ t) _ _) = _
        rw [nearest_cw (s ^^ t) hab hs (by omega)]
        rw [hAB, show ((a.natAbs.log2 : Int) - 52 + ((b.natAbs.log2 : Int) - 52) + 1074).toNat = a.natAbs.log2 + b.natAbs.log2 + 970 by omega]
        rw [Nat.mul_mul_mul_comm, Nat.mul_assoc, ← Nat.pow_add, ← Nat.pow_add]
        congr 2
        omega
      · rcases Int.lt_or_gt_of_ne ha0 with h1 | h1
        · rcases Int.lt_or_gt_of_ne hb0 with h2 | h2
          · have := Int.mul_pos_of_neg_of_neg h1 h2; omega
          · rw [s1 h1, t2 h2]; rfl
        · rcases Int.lt_or_gt_of_ne hb0 with h2 | h2
          · rw [s2 h1, t1 h2]; rfl
          · have := Int.mul_pos h1 h2; omega
      · rcases Int.lt_or_gt_of_ne ha0 with h1 | h1
        · rcases Int.lt_or_gt_of_ne hb0 with h2 | h2
          · rw [s1 h1, t1 h2]; rfl
          · have := Int.mul_neg_of_neg_of_pos h1 h2; omega
        · rcases Int.lt_or_gt_of_ne hb0 with h2 | h2
          · have := Int.mul_neg_of_pos_of_neg h1 h2; omega
          · rw [s2 h1, t2 h2]; rfl

theorem IsW.ofInt (n : Int) (hn : n.natAbs < 9007199254740992) : IsW (floatOfInt .f64 n) n := by
  refine Rep.write (d := .number (decide (n < 0)) n.natAbs 0) ⟨_, _, _, rfl, by decide, ?_⟩ hn
  have hK := KX_eq
  have hk : ((0 : Int) + 1074).toNat = KX := by omega
  rw [signed_eq, hk]
  have hn : (if decide (n < 0) then (-1 : Int) else 1) * (n.natAbs : Int) = n := by
    by_cases h : n < 0
    · rw [decide_eq_true h]; simp; omega
    · rw [decide_eq_false h]; simp; omega
  rw [hn]

theorem IsW.pos {x : Nat} {a : Int} (h : IsW x a) (ha : a.natAbs < 9007199254740992) : (double.order x 0 == some .gt) = decide (0 < a) := by
  obtain ⟨s, m, i, hd, hi, e⟩ := h.rep ha
  have h0 : double.read 0 = .number false 0 (-1074) := by decide +kernel
  unfold Format.order
  rw [hd, h0]
  have hb : min i (-1074) = -1074 := by omega
  show (some (compare (signed s m (i - min i (-1074)).toNat) (signed false 0 (-1074 - min i (-1074)).toNat)) == some Ordering.gt) = _
  rw [hb, show (i - -1074).toNat = (i + 1074).toNat by omega, e, show signed false 0 (-1074 - -1074 : Int).toNat = 0 by rfl]
  have p2 := pow_pos KX
  by_cases h1 : 0 < a
  · have h2 : 0 < a * 2 ^ KX := Int.mul_pos h1 p2
    rw [decide_eq_true h1]
    have : compare (a * 2 ^ KX) 0 = .gt := Int.compare_eq_gt.2 h2
    rw [this]; rfl
  · rw [decide_eq_false h1]
    by_cases h2 : a = 0
    · subst h2; rw [Int.zero_mul]; rfl
    · have h3 : a * 2 ^ KX < 0 := Int.mul_neg_of_neg_of_pos (by omega) p2
      have : compare (a * 2 ^ KX) 0 = .lt := Int.compare_eq_lt.2 h3
      rw [this]; rfl

theorem IsW.toInt {x : Nat} {a : Int} (h : IsW x a) (ha : a.natAbs < 9007199254740992) : floatToIntVal .f64 x .i64 = some a := by
  obtain ⟨s, rfl, h1, h2⟩ := h
  have key : (double.read (cw s a.natAbs)).toInt .zero = some a := by
    by_cases h0 : a = 0
    · subst h0
      rw [show (0 : Int).natAbs = 0 by rfl, read_cw0]
      cases s <;> decide +kernel
    · have hA : 1 ≤ a.natAbs := by omega
      obtain ⟨k1, k2, k3⟩ := kept_bounds hA ha
      rw [read_cw s hA ha]
      unfold Datum.toInt Datum.integral
      simp only
      rw [show ((a.natAbs.log2 : Int) - 52).toNat = 0 by omega, show (-((a.natAbs.log2 : Int) - 52)).toNat = 52 - a.natAbs.log2 by omega, Nat.shiftLeft_zero]
      rw [cut_pow _ _ _ _ (by rw [log2_pow _ _ (by omega)]; omega), signed_eq]
      congr 1
      rcases Int.lt_or_gt_of_ne h0 with h | h
      · rw [h1 h]; simp; omega
      · rw [h2 h]; simp; omega
  unfold floatToIntVal FloatKind.decode
  show (match (double.read (cw s a.natAbs)).toInt .zero with | some n => _ | none => none) = _
  rw [key]
  simp only
  rw [if_pos]
  constructor
  · show (-9223372036854775808 : Int) ≤ a; omega
  · show a ≤ (9223372036854775807 : Int); omega

theorem IsW.zero : IsW 0 0 := ⟨false, by decide +kernel, by omega, by omega⟩

theorem IsW.lt {x : Nat} {a : Int} (h : IsW x a) (ha : a.natAbs < 9007199254740992) : x < 2 ^ 64 := by
  obtain ⟨s, rfl, _⟩ := h
  unfold cw Format.word
  rw [double_facts.1]
  by_cases h0 : a.natAbs = 0
  · rw [if_pos h0]; cases s <;> decide
  · obtain ⟨k1, k2, k3⟩ := kept_bounds (A := a.natAbs) (by omega) ha
    rw [if_neg h0]
    cases s <;> simp <;> omega
end Go.Proofs.YtcdlmjbjpeokfaaDoor

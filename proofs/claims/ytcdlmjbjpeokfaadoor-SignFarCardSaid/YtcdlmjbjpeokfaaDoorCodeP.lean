/-
  PLAIN LAWS: the bits of a code.
-/
import Derived.Test.YtcdlmjbjpeokfaaDoorAddY
import Derived.Test.YtcdlmjbjpeokfaaDoorBitsP
namespace Go.Proofs.YtcdlmjbjpeokfaaDoor
open Go.RowKit
set_option linter.unusedVariables false

theorem bitB_test (l : List UInt8) (i : Nat) : bitB l i = (l.getD (i / 8) 0).toNat.testBit (7 - i % 8) := by
  unfold bitB
  rw [Nat.testBit_eq_decide_div_mod_eq]
  rcases h : decide ((l.getD (i / 8) 0).toNat / 2 ^ (7 - i % 8) % 2 = 1) with _ | _ <;> simp at h <;> simp [h]

theorem stepC_bit (l : List UInt8) (i : Nat) (pos : Bool) (j : Nat) (hi : i / 8 < l.length) : bitB (stepC l i pos) j = (bitB l j || (pos && decide (j = i))) := by
  unfold stepC
  cases pos with
  | false => simp
  | true =>
    simp only [if_true, Bool.true_and]
    rw [bitB_test, bitB_test]
    have hd := (l.getD (i / 8) 0).toNat_lt
    have hp : 2 ^ (7 - i % 8) < 2 ^ 8 := Nat.pow_lt_pow_right (by omega) (by omega)
    have hx : (l.getD (i / 8) 0).toNat ||| 2 ^ (7 - i % 8) < 2 ^ 8 := Nat.or_lt_two_pow (by omega) hp
    by_cases h : j / 8 = i / 8
    · have e : (l.set (i / 8) (UInt8.ofNat ((l.getD (i / 8) 0).toNat ||| 2 ^ (7 - i % 8)))).getD (j / 8) 0 = UInt8.ofNat ((l.getD (i / 8) 0).toNat ||| 2 ^ (7 - i % 8)) := by
        rw [h]; simp [List.getD, hi]
      rw [e, UInt8.toNat_ofNat', Nat.mod_eq_of_lt hx, Nat.testBit_or, Nat.testBit_two_pow, h]
      congr 1
      rw [decide_eq_decide]
      omega
    · have e : (l.set (i / 8) (UInt8.ofNat ((l.getD (i / 8) 0).toNat ||| 2 ^ (7 - i % 8)))).getD (j / 8) 0 = l.getD (j / 8) 0 := by
        simp only [List.getD]
        rw [List.getElem?_set_ne (fun e => h e.symm)]
      rw [e]
      have : ¬ j = i := fun e => h (by rw [e])
      simp [this]

/-- The sign that stands at bit j. -/
def sgnAt (L : List (Int × Int)) (j : Nat) : Bool := if j % 2 = 0 then decide (0 < (L.getD (j / 2) (0, 0)).1) else decide (0 < (L.getD (j / 2) (0, 0)).2)

theorem codeC_bit (n : Nat) (L : List (Int × Int)) (k : Nat) (hk : 2 * k ≤ 8 * n) (j : Nat) : bitB (codeC n L k) j = (sgnAt L j && decide (j < 2 * k)) := by
  induction k with
  | zero =>
    have : (List.replicate n (0 : UInt8)).getD (j / 8) 0 = 0 := by
      simp only [List.getD, List.getElem?_replicate]
      split <;> rfl
    unfold codeC
    rw [bitB_test, this]
    simp
  | succ k ih =>
    unfold codeC
    rw [stepC_bit _ _ _ _ (by rw [stepC_length, codeC_length]; omega), stepC_bit _ _ _ _ (by rw [codeC_length]; omega), ih (by omega)]
    by_cases h1 : j = 2 * k
    · subst h1
      have e1 : sgnAt L (2 * k) = decide (0 < (L.getD k (0, 0)).1) := by
        unfold sgnAt
        rw [if_pos (by omega), show 2 * k / 2 = k by omega]
      rw [e1]
      have h3 : 2 * k < 2 * (k + 1) := by omega
      simp [h3]
    · by_cases h2 : j = 2 * k + 1
      · subst h2
        have e1 : sgnAt L (2 * k + 1) = decide (0 < (L.getD k (0, 0)).2) := by
          unfold sgnAt
          rw [if_neg (by omega), show (2 * k + 1) / 2 = k by omega]
        rw [e1]
        have h2 : ¬ 2 * k + 1 < 2 * k := by omega
        have h3 : 2 * k + 1 < 2 * (k + 1) := by omega
        simp [h2, h3]
      · have h3 : decide (j < 2 * (k + 1)) = decide (j < 2 * k) := by rw [decide_eq_decide]; omega
        simp [h1, h2, h3]

/-- A number that tells whether it is above 0. -/
def sg1 (a : Int) : Int := if 0 < a then 1 else 0

theorem sg1_range (a : Int) : 0 ≤ sg1 a ∧ sg1 a ≤ 1 := by unfold sg1; split <;> decide

theorem sg1_neg {a : Int} (h : a ≠ 0) : sg1 (-a) = 1 - sg1 a := by
  unfold sg1
  by_cases h1 : 0 < a
  · rw [if_pos h1, if_neg (by omega)]; rfl
  · rw [if_neg h1, if_pos (by omega)]; rfl

theorem cdC_bit (sd : Int) (h : Nat) (zs : List (Int × Int)) (hh4 : h % 4 = 0) (j : Nat) (hj : j < 2 * h) : bitB (cdC sd h zs).data.toList j = sgnAt (sgL sd h zs) j := by
  have e : (cdC sd h zs).data.toList = codeC (h / 4) (sgL sd h zs) h := by simp [cdC]
  rw [e, codeC_bit _ _ _ (by omega)]
  simp [hj]

theorem cdC_bit1 (sd : Int) (h : Nat) (zs : List (Int × Int)) (hh4 : h % 4 = 0) (j : Nat) (x : Int × Int) (hx : (sgL sd h zs)[j]? = some x) : ((bitB (cdC sd h zs).data.toList (2 * j)).toNat : Int) = sg1 x.1 := by
  have hj := (List.getElem?_eq_some_iff.1 hx).1
  rw [sgL_length] at hj
  rw [cdC_bit _ _ _ hh4 _ (by omega)]
  unfold sgnAt sg1
  rw [if_pos (by omega), show 2 * j / 2 = j by omega]
  have e : (sgL sd h zs).getD j (0, 0) = x := by simp [List.getD, hx]
  rw [e]
  by_cases h1 : 0 < x.1 <;> simp [h1]

theorem cdC_bit2 (sd : Int) (h : Nat) (zs : List (Int × Int)) (hh4 : h % 4 = 0) (j : Nat) (x : Int × Int) (hx : (sgL sd h zs)[j]? = some x) : ((bitB (cdC sd h zs).data.toList (2 * j + 1)).toNat : Int) = sg1 x.2 := by
  have hj := (List.getElem?_eq_some_iff.1 hx).1
  rw [sgL_length] at hj
  rw [cdC_bit _ _ _ hh4 _ (by omega)]
  unfold sgnAt sg1
  rw [if_neg (by omega), show (2 * j + 1) / 2 = j by omega]
  have e : (sgL sd h zs).getD j (0, 0) = x := by simp [List.getD, hx]
  rw [e]
  by_cases h1 : 0 < x.2 <;> simp [h1]

theorem codeC_congr (n : Nat) (L M : List (Int × Int)) (k : Nat) (hs : ∀ i, i < k → ((0 < (L.getD i (0, 0)).1) ↔ (0 < (M.getD i (0, 0)).1)) ∧ ((0 < (L.getD i (0, 0)).2) ↔ (0 < (M.getD i (0, 0)).2))) : codeC n L k = codeC n M k := by
  induction k with
  | zero => rfl
  | succ k ih =>
    unfold codeC
    have h1 := hs k (by omega)
    rw [ih (fun i hi => hs i (by omega)), decide_eq_decide.2 h1.1, decide_eq_decide.2 h1.2]

theorem pos_mul_iff {c : Int} (hc : 0 < c) (a : Int) : 0 < c * a ↔ 0 < a := by
  constructor
  · intro h
    rcases Int.lt_trichotomy a 0 with h1 | h1 | h1
    · have := Int.mul_neg_of_pos_of_neg hc h1
      omega
    · subst h1; simp at h
    · exact h1
  · exact fun h => Int.mul_pos hc h

theorem cdC_mul (sd : Int) (h : Nat) (c : Int) (hc : 0 < c) (zs : List (Int × Int)) : cdC sd h (mulL c zs) = cdC sd h zs := by
  unfold cdC
  congr 2
  apply codeC_congr
  intro i hi
  rw [sgL_mul _ _ _ _ _ hi]
  exact ⟨pos_mul_iff hc _, pos_mul_iff hc _⟩
end Go.Proofs.YtcdlmjbjpeokfaaDoor

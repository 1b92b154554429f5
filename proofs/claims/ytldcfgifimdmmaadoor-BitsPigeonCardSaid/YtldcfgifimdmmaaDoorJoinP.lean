/-
  PLAIN LAWS on a code made of its chunks' values (no program in sight).
-/
import Derived.Test.YtldcfgifimdmmaaDoorBitsP
import Derived.Test.YtldcfgifimdmmaaDoorChunksP
namespace Go.Proofs.YtldcfgifimdmmaaDoor
set_option linter.unusedVariables false

/-- Bit i put on a text. -/
def orB (l : List UInt8) (i : Nat) (b : Bool) : List UInt8 := l.set (i / 8) (UInt8.ofNat ((l.getD (i / 8) 0).toNat ||| b.toNat * 2 ^ (7 - i % 8)))
theorem orB_length (l : List UInt8) (i : Nat) (b : Bool) : (orB l i b).length = l.length := by simp [orB]
theorem bitB_testBit (l : List UInt8) (i : Nat) : bitB l i = (l.getD (i / 8) 0).toNat.testBit (7 - i % 8) := by
  unfold bitB
  have t := fun n => @Nat.testBit_eq_decide_div_mod_eq (7 - i % 8) n
  rw [t]; rfl
theorem byte_or (c : UInt8) (b : Bool) (j : Nat) (hj : j < 8) : (UInt8.ofNat (c.toNat ||| b.toNat * 2 ^ j)).toNat = c.toNat ||| b.toNat * 2 ^ j := by
  have hp2 : 2 ^ j < 256 := Nat.pow_lt_pow_right (a := 2) (n := 8) (by omega) hj
  have hb : b.toNat * 2 ^ j < 2 ^ 8 := by cases b <;> simp <;> omega
  have := Nat.or_lt_two_pow (n := 8) c.toNat_lt hb
  rw [UInt8.toNat_ofNat']
  exact Nat.mod_eq_of_lt this
theorem bitB_orB (l : List UInt8) (i : Nat) (b : Bool) (hi : i < 8 * l.length) (j : Nat) : bitB (orB l i b) j = if i = j then (bitB l j || b) else bitB l j := by
  rw [bitB_testBit, bitB_testBit]
  by_cases hk : i / 8 = j / 8
  · have hg : (orB l i b).getD (j / 8) 0 = UInt8.ofNat ((l.getD (i / 8) 0).toNat ||| b.toNat * 2 ^ (7 - i % 8)) := by
      unfold orB
      rw [← hk]
      simp [List.getD, show i / 8 < l.length by omega]
    rw [hg, byte_or _ _ _ (by omega), Nat.testBit_or, hk]
    have hb : (b.toNat * 2 ^ (7 - i % 8)).testBit (7 - j % 8) = (b && decide (i = j)) := by
      cases b
      · simp
      · simp only [Bool.toNat_true, Nat.one_mul, Nat.testBit_two_pow, Bool.true_and]
        congr 1
        apply propext
        omega
    rw [hb]
    by_cases e : i = j
    · subst e; simp
    · simp [e]
  · have hg : (orB l i b).getD (j / 8) 0 = l.getD (j / 8) 0 := by
      unfold orB
      simp [List.getD, hk]
    rw [hg, if_neg (by intro e; exact hk (by rw [e]))]

/-- Bits put on a text from place f on. -/
def wrB (l : List UInt8) (f : Nat) : List Bool → List UInt8
  | [] => l
  | b :: bs => wrB (orB l f b) (f + 1) bs
theorem wrB_snoc (l : List UInt8) (f : Nat) (bs : List Bool) (b : Bool) : wrB l f (bs ++ [b]) = orB (wrB l f bs) (f + bs.length) b := by
  induction bs generalizing l f with
  | nil => rfl
  | cons c bs ih =>
    simp only [List.cons_append, wrB, List.length_cons]
    rw [ih, show f + 1 + bs.length = f + (bs.length + 1) by omega]
theorem wrB_append (l : List UInt8) (f : Nat) (bs cs : List Bool) : wrB l f (bs ++ cs) = wrB (wrB l f bs) (f + bs.length) cs := by
  induction bs generalizing l f with
  | nil => rfl
  | cons c bs ih =>
    simp only [List.cons_append, wrB, List.length_cons]
    rw [ih, show f + 1 + bs.length = f + (bs.length + 1) by omega]
theorem wrB_length (l : List UInt8) (f : Nat) (bs : List Bool) : (wrB l f bs).length = l.length := by
  induction bs generalizing l f with
  | nil => rfl
  | cons c bs ih => simp only [wrB]; rw [ih, orB_length]
theorem bitB_wrB (l : List UInt8) (f : Nat) (bs : List Bool) (h : f + bs.length ≤ 8 * l.length) (j : Nat) : bitB (wrB l f bs) j = if f ≤ j ∧ j < f + bs.length then (bitB l j || bs.getD (j - f) false) else bitB l j := by
  induction bs generalizing l f with
  | nil => simp only [wrB, List.length_nil]; rw [if_neg (by omega)]
  | cons c bs ih =>
    simp only [List.length_cons] at h
    simp only [wrB, List.length_cons]
    rw [ih (orB l f c) (f + 1) (by rw [orB_length]; omega), bitB_orB l f c (by omega)]
    by_cases e : f = j
    · subst e
      rw [if_neg (by omega), if_pos rfl, if_pos (by omega)]
      simp
    · rw [if_neg e]
      by_cases e2 : f + 1 ≤ j ∧ j < f + 1 + bs.length
      · rw [if_pos e2, if_pos (by omega), show j - f = (j - (f + 1)) + 1 by omega]; rfl
      · rw [if_neg e2, if_neg (by omega)]
theorem bitB_zeros (n i : Nat) : bitB (List.replicate n 0) i = false := by
  have : (List.replicate n (0 : UInt8)).getD (i / 8) 0 = 0 := by
    simp only [List.getD, List.getElem?_replicate]
    split <;> rfl
  rw [bitB_testBit, this]; simp
/-- What is read back. -/
theorem bitsOf_wrB (n : Nat) (bs : List Bool) (h : bs.length ≤ 8 * n) (f c : Nat) (hf : f + c ≤ bs.length) : bitsOf (wrB (List.replicate n 0) 0 bs) f c = (bs.drop f).take c := by
  apply List.ext_getElem?
  intro i
  unfold bitsOf
  by_cases hi : i < c
  · simp only [List.getElem?_map, List.getElem?_range hi, Option.map_some, List.getElem?_take, hi, if_true, List.getElem?_drop]
    rw [bitB_wrB _ _ _ (by simpa using h), if_pos (by omega), bitB_zeros]
    simp [List.getD, show f + i < bs.length by omega]
  · rw [List.getElem?_eq_none (by simp; omega), List.getElem?_eq_none (by simp; omega)]

/-- The n bits of a value, the first the highest. -/
def bitsN (v n : Nat) : List Bool := (List.range n).map fun i => v.testBit (n - 1 - i)
theorem bitsN_length (v n : Nat) : (bitsN v n).length = n := by simp [bitsN]
theorem bitsN_succ (v n : Nat) : bitsN v (n + 1) = v.testBit n :: bitsN v n := by
  unfold bitsN
  rw [List.range_succ_eq_map, List.map_cons, List.map_map]
  congr 1
  apply List.map_congr_left
  intro i hi
  simp only [Function.comp_apply]
  congr 1
  omega
theorem numOf_bitsN (v n : Nat) : numOf (bitsN v n) = v % 2 ^ n := by
  induction n with
  | zero => simp [bitsN, numOf, Nat.mod_one]
  | succ n ih =>
    have := numOf_append [v.testBit n] (bitsN v n)
    rw [bitsN_succ, ← List.singleton_append, this, ih, bitsN_length]
    have h1 : numOf [v.testBit n] = v / 2 ^ n % 2 := by
      have : ∀ b : Bool, numOf [b] = b.toNat := by intro b; cases b <;> rfl
      rw [this, Nat.testBit_eq_decide_div_mod_eq]
      rcases Nat.mod_two_eq_zero_or_one (v / 2 ^ n) with e | e <;> rw [e] <;> rfl
    rw [h1, Nat.mod_pow_succ, Nat.mul_comm, Nat.add_comm]

/-- The bits of the first k values, each as wide as its chunk. -/
def valBits (w m : Nat) (vs : List Nat) (k : Nat) : List Bool := (List.range k).flatMap fun j => bitsN (vs.getD j 0) (cN w m j)
theorem valBits_succ (w m : Nat) (vs : List Nat) (k : Nat) : valBits w m vs (k + 1) = valBits w m vs k ++ bitsN (vs.getD k 0) (cN w m k) := by
  simp [valBits, List.range_succ]
theorem valBits_length (w m : Nat) (vs : List Nat) : ∀ k, (valBits w m vs k).length = cF w m k
  | 0 => rfl
  | k + 1 => by rw [valBits_succ, List.length_append, valBits_length w m vs k, bitsN_length]; rfl
theorem valBits_part (w m : Nat) (vs : List Nat) (j : Nat) : ∀ k, j < k → ((valBits w m vs k).drop (cF w m j)).take (cN w m j) = bitsN (vs.getD j 0) (cN w m j)
  | 0, h => absurd h (Nat.not_lt_zero _)
  | k + 1, h => by
    rw [valBits_succ]
    by_cases e : j = k
    · subst e
      rw [List.drop_append_of_le_length (by rw [valBits_length]; omega), List.drop_eq_nil_of_le (by rw [valBits_length]; omega), List.nil_append, List.take_of_length_le (by rw [bitsN_length]; omega)]
    · have hk : cF w m j + cN w m j ≤ cF w m k := cF_mono w m (show j + 1 ≤ k by omega)
      rw [List.drop_append_of_le_length (by rw [valBits_length]; omega), List.take_append_of_le_length (by rw [List.length_drop, valBits_length]; omega)]
      exact valBits_part w m vs j k (by omega)
/-- The code of the values. -/
def joinB (w m : Nat) (vs : List Nat) : List UInt8 := wrB (List.replicate (w / 8) 0) 0 (valBits w m vs m)
theorem joinB_length (w m : Nat) (vs : List Nat) : (joinB w m vs).length = w / 8 := by unfold joinB; rw [wrB_length]; simp
theorem joinB_value (w m : Nat) (vs : List Nat) (hm : 0 < m) (h8 : w % 8 = 0) (j : Nat) (hj : j < m) : numOf (bitsOf (joinB w m vs) (cF w m j) (cN w m j)) = vs.getD j 0 % 2 ^ cN w m j := by
  have hl : (valBits w m vs m).length = w := by rw [valBits_length, cF_all w m hm]
  unfold joinB
  rw [bitsOf_wrB (w / 8) _ (by rw [hl]; omega) _ _ (by rw [hl]; exact cF_end w m j hm hj), valBits_part w m vs j m hj, numOf_bitsN]

theorem bitsN_numOf : ∀ bs : List Bool, bitsN (numOf bs) bs.length = bs
  | [] => rfl
  | b :: bs => by
    have ih := bitsN_numOf bs
    have hl := numOf_lt bs
    have ha := numOf_append [b] bs
    have hb : numOf [b] = b.toNat := by cases b <;> rfl
    rw [List.singleton_append, hb] at ha
    rw [List.length_cons, bitsN_succ, ha]
    have h1 : (b.toNat * 2 ^ bs.length + numOf bs).testBit bs.length = b := by
      rw [Nat.testBit_eq_decide_div_mod_eq, Nat.mul_comm, Nat.mul_add_div (Nat.two_pow_pos _), Nat.div_eq_of_lt hl]
      cases b <;> rfl
    have h2 : bitsN (b.toNat * 2 ^ bs.length + numOf bs) bs.length = bitsN (numOf bs) bs.length := by
      unfold bitsN
      apply List.map_congr_left
      intro i hi
      have hi' : i < bs.length := by simpa using hi
      rw [Nat.mul_comm, Nat.testBit_two_pow_mul_add _ hl, if_pos (by omega)]
    rw [h1, h2, ih]
/-- The values of a code, put together, are its bits. -/
theorem valBits_split (w m : Nat) (l : List UInt8) (vs : List Nat) : ∀ k, (∀ j, j < k → vs.getD j 0 = numOf (bitsOf l (cF w m j) (cN w m j))) → valBits w m vs k = bitsOf l 0 (cF w m k)
  | 0, _ => rfl
  | k + 1, h => by
    have hb := bitsN_numOf (bitsOf l (cF w m k) (cN w m k))
    rw [bitsOf_length] at hb
    rw [valBits_succ, valBits_split w m l vs k (fun j hj => h j (by omega)), h k (by omega), hb]
    show _ = bitsOf l 0 (cF w m k + cN w m k)
    rw [bitsOf_add, Nat.zero_add]
/-- A text is its bits. -/
theorem bytes_of_bits (a b : List UInt8) (h : a.length = b.length) (hb : ∀ i, i < 8 * a.length → bitB a i = bitB b i) : a = b := by
  apply List.ext_getElem h
  intro k h1 h2
  apply UInt8.toNat_inj.1
  apply Nat.eq_of_testBit_eq
  intro j
  by_cases hj : j < 8
  · have := hb (8 * k + (7 - j)) (by omega)
    rw [bitB_testBit, bitB_testBit, show (8 * k + (7 - j)) / 8 = k by omega, show 7 - (8 * k + (7 - j)) % 8 = j by omega] at this
    simpa [List.getD, h1, h2] using this
  · have e : 2 ^ 8 ≤ 2 ^ j := Nat.pow_le_pow_right (by omega) (by omega)
    rw [Nat.testBit_lt_two_pow (Nat.lt_of_lt_of_le (a[k].toNat_lt) e), Nat.testBit_lt_two_pow (Nat.lt_of_lt_of_le (b[k].toNat_lt) e)]
/-- A code is made of its chunks' values again. -/
theorem joinB_split (w m : Nat) (l : List UInt8) (vs : List Nat) (hm : 0 < m) (h8 : w % 8 = 0) (hl : l.length = w / 8) (hv : ∀ j, j < m → vs.getD j 0 = numOf (bitsOf l (cF w m j) (cN w m j))) : joinB w m vs = l := by
  apply bytes_of_bits _ _ (by rw [joinB_length, hl])
  intro i hi
  rw [joinB_length] at hi
  have hvb := valBits_split w m l vs m hv
  rw [cF_all w m hm] at hvb
  unfold joinB
  rw [hvb, bitB_wrB _ _ _ (by rw [bitsOf_length]; simp; omega), if_pos (by rw [bitsOf_length]; omega), bitB_zeros]
  simp [bitsOf, List.getD, show i < w by omega]
end Go.Proofs.YtldcfgifimdmmaaDoor

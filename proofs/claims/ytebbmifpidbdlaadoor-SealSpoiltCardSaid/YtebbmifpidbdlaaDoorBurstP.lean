/-
  PLAIN LAWS: bits turned within 32 change a sum; a frame in which they are turned is refused (no program in sight).
-/
import Derived.Test.YtebbmifpidbdlaaDoorSealP
namespace Go.Proofs.YtebbmifpidbdlaaDoor
set_option linter.unusedVariables false

/-- A text as a number, the lowest byte first. -/
def Xn : List UInt8 → Nat
  | [] => 0
  | c :: l => c.toNat + 256 * Xn l

/-- k bits of the register. -/
def rbN : Nat → Nat → Nat
  | 0, x => x
  | k + 1, x => rbN k (Crc.rb x)
theorem rbN_xor (k a b : Nat) : rbN k (a ^^^ b) = rbN k a ^^^ rbN k b := by
  induction k generalizing a b with
  | zero => rfl
  | succ k ih => simp only [rbN, Crc.rb_xor, ih]
theorem rbN_add (j k x : Nat) : rbN (j + k) x = rbN k (rbN j x) := by
  induction j generalizing x with
  | zero => simp [rbN]
  | succ j ih => rw [Nat.succ_add]; exact ih _
theorem rbN_two_pow (e q : Nat) : rbN e (q * 2 ^ e) = q := by
  induction e generalizing q with
  | zero => simp [rbN]
  | succ e ih =>
    show rbN e (Crc.rb (q * 2 ^ (e + 1))) = q
    rw [Nat.pow_succ, show q * (2 ^ e * 2) = 2 * (q * 2 ^ e) by rw [← Nat.mul_assoc, Nat.mul_comm], Crc.rb_even, ih]
theorem rb8_eq (x : Nat) : Crc.rb8 x = rbN 8 x := rfl

theorem xor_add (a b : Nat) (h : a < 256) : a + 256 * b = a ^^^ (256 * b) := by
  have h2 := Nat.two_pow_add_eq_or_of_lt (i := 8) (b := a) h b
  have e : a + 256 * b = 2 ^ 8 * b + a := by omega
  rw [e, h2]
  apply Nat.eq_of_testBit_eq
  intro i
  rw [Nat.testBit_xor, Nat.testBit_or]
  by_cases hi : i < 8
  · have : (2 ^ 8 * b).testBit i = false := by rw [Nat.testBit_two_pow_mul]; simp; omega
    rw [show 256 * b = 2 ^ 8 * b by omega, this]; simp
  · have : a.testBit i = false := by
      apply Nat.testBit_lt_two_pow
      calc a < 2 ^ 8 := h
        _ ≤ 2 ^ i := Nat.pow_le_pow_right (by omega) (by omega)
    rw [this]; simp

/-- The register behind a text is that of the number which the text is. -/
theorem crc_Xn (l : List UInt8) (r : Nat) : Crc.crc r l = rbN (8 * l.length) (r ^^^ Xn l) := by
  induction l generalizing r with
  | nil => simp [Crc.crc, Xn, rbN]
  | cons c l ih =>
    have hc := c.toNat_lt
    show Crc.crc (Crc.rb8 (r ^^^ c.toNat)) l = _
    rw [ih, List.length_cons, show 8 * (l.length + 1) = 8 + 8 * l.length by omega, rbN_add]
    congr 1
    rw [Xn, xor_add _ _ (by omega), ← Nat.xor_assoc, rbN_xor, ← rb8_eq]
    congr 1
    rw [show 256 * Xn l = Xn l * 2 ^ 8 by omega, rbN_two_pow]

theorem rb_ne (x : Nat) (h : x < 4294967296) (h0 : x ≠ 0) : Crc.rb x ≠ 0 := by
  unfold Crc.rb
  by_cases ho : x % 2 = 1
  · rw [if_pos ho]
    intro e
    have e2 : x / 2 = Crc.P := by
      have := Crc.xor_cancel (x / 2) Crc.P
      rw [e, Nat.zero_xor] at this
      exact this.symm
    have : Crc.P = 2197175160 := rfl
    omega
  · rw [if_neg ho, Nat.xor_zero]
    omega
theorem rbN_ne (k x : Nat) (h : x < 4294967296) (h0 : x ≠ 0) : rbN k x ≠ 0 := by
  induction k generalizing x with
  | zero => exact h0
  | succ k ih => exact ih _ (Crc.rb_lt x h) (rb_ne x h h0)
theorem rbN_burst (k q e : Nat) (h : q < 4294967296) (h0 : q ≠ 0) : rbN k (q * 2 ^ e) ≠ 0 := by
  by_cases hk : e ≤ k
  · rw [show k = e + (k - e) by omega, rbN_add, rbN_two_pow]
    exact rbN_ne _ _ h h0
  · have e2 : q * 2 ^ e = (q * 2 ^ (e - k)) * 2 ^ k := by rw [Nat.mul_assoc, ← Nat.pow_add]; congr 2; omega
    rw [e2, rbN_two_pow]
    intro hz
    rcases Nat.mul_eq_zero.1 hz with h1 | h1
    · exact h0 h1
    · exact absurd h1 (Nat.pos_iff_ne_zero.1 (Nat.two_pow_pos _))

theorem xor_eq_zero (a b : Nat) (h : a ^^^ b = 0) : a = b := by
  have := Crc.xor_cancel a b
  rw [h, Nat.zero_xor] at this
  exact this.symm

/-- Bits turned within 32 change a sum. -/
theorem sum_turned (s : Nat) (b x : List UInt8) (q e : Nat) (hl : x.length = b.length) (hx : Xn x ^^^ Xn b = q * 2 ^ e) (h : q < 4294967296) (h0 : q ≠ 0) : Crc.on s x ≠ Crc.on s b := by
  intro he
  unfold Crc.on at he
  have h1 := congrArg (· ^^^ Crc.M) he
  simp only [Crc.xor_cancel] at h1
  rw [crc_Xn, crc_Xn, hl] at h1
  have h2 : rbN (8 * b.length) (Xn x ^^^ Xn b) = 0 := by
    have : Xn x ^^^ Xn b = (s ^^^ Crc.M ^^^ Xn x) ^^^ (s ^^^ Crc.M ^^^ Xn b) := by
      rw [Nat.xor_comm (s ^^^ Crc.M) (Xn x), Nat.xor_assoc, Crc.xor_self_left]
    rw [this, rbN_xor, h1, Nat.xor_self]
  rw [hx] at h2
  exact rbN_burst _ _ _ h h0 h2

theorem Xn_lt (l : List UInt8) : Xn l < 256 ^ l.length := by
  induction l with
  | nil => simp [Xn]
  | cons c l ih =>
    have hc := c.toNat_lt
    simp only [Xn, List.length_cons, Nat.pow_succ]
    omega
theorem Xn_append (a b : List UInt8) : Xn (a ++ b) = Xn a + 256 ^ a.length * Xn b := by
  induction a with
  | nil => simp [Xn]
  | cons c a ih =>
    simp only [List.cons_append, Xn, ih, List.length_cons, Nat.pow_succ]
    rw [Nat.mul_add, ← Nat.add_assoc, Nat.mul_comm (256 ^ a.length) 256, Nat.mul_assoc]
theorem pow256 (n : Nat) : (256 : Nat) ^ n = 2 ^ (8 * n) := by rw [show (256 : Nat) = 2 ^ 8 by decide, ← Nat.pow_mul]
theorem Xn_take (l : List UInt8) (k : Nat) (h : k ≤ l.length) : Xn (l.take k) = Xn l % 2 ^ (8 * k) := by
  have e := Xn_append (l.take k) (l.drop k)
  rw [List.take_append_drop] at e
  have hl : (l.take k).length = k := by simp; omega
  rw [hl] at e
  have hlt := Xn_lt (l.take k)
  rw [hl] at hlt
  rw [e, ← pow256, Nat.add_mul_mod_self_left, Nat.mod_eq_of_lt hlt]
theorem Xn_drop (l : List UInt8) (k : Nat) (h : k ≤ l.length) : Xn (l.drop k) = Xn l / 2 ^ (8 * k) := by
  have e := Xn_append (l.take k) (l.drop k)
  rw [List.take_append_drop] at e
  have hl : (l.take k).length = k := by simp; omega
  rw [hl] at e
  have hlt := Xn_lt (l.take k)
  rw [hl] at hlt
  rw [e, ← pow256, Nat.add_mul_div_left _ _ (Nat.pow_pos (by omega)), Nat.div_eq_of_lt hlt, Nat.zero_add]
theorem Xn_le32 (s : Nat) (h : s < 4294967296) : Xn (le32 s) = s := by
  simp only [le32, Xn, UInt8.toNat_ofNat']
  omega

/-- The register behind a text and its sum. -/
theorem crc_residue (r : Nat) (a : List UInt8) (h : r < 4294967296) : Crc.crc r (a ++ le32 (Crc.crc r a ^^^ Crc.M)) = rbN 32 Crc.M := by
  rw [Crc.crc_append, crc_Xn (le32 _), le32_length, Xn_le32 _ (Crc.xor_lt _ _ (Crc.crc_lt _ _ h) (by decide)), Crc.xor_self_left]
theorem sum_residue (a c : List UInt8) (hc : c = sumB a) : Crc.crc Crc.M (a ++ c) = rbN 32 Crc.M := by
  subst hc
  have : sumB a = le32 (Crc.crc Crc.M a ^^^ Crc.M) := by unfold sumB Crc.on; rw [Nat.zero_xor]
  rw [this]; exact crc_residue _ _ (by decide)

/-- Two texts of one length whose registers are the same are not apart by a burst. -/
theorem no_burst (a b : List UInt8) (hl : a.length = b.length) (h : Crc.crc Crc.M a = Crc.crc Crc.M b) (q e : Nat) (hx : Xn a ^^^ Xn b = q * 2 ^ e) (hq : q < 4294967296) : q = 0 := by
  rcases Nat.eq_zero_or_pos q with h0 | h0
  · exact h0
  · exfalso
    have : Crc.on 0 a = Crc.on 0 b := by unfold Crc.on; rw [Nat.zero_xor, h]
    exact sum_turned 0 b a q e hl hx hq (by omega) this

theorem burst_mod (q at_ k : Nat) : ∃ q', q * 2 ^ at_ % 2 ^ k = q' * 2 ^ at_ ∧ q' ≤ q ∧ (q' = 0 → q * 2 ^ at_ % 2 ^ k = 0) := by
  by_cases h : at_ ≤ k
  · refine ⟨q % 2 ^ (k - at_), ?_, Nat.mod_le _ _, fun h0 => ?_⟩
    · rw [show k = (k - at_) + at_ by omega, Nat.pow_add, Nat.mul_mod_mul_right]
      rw [show k - at_ + at_ - at_ = k - at_ by omega]
    · rw [show k = (k - at_) + at_ by omega, Nat.pow_add, Nat.mul_mod_mul_right]
      rw [h0]; simp
  · refine ⟨0, ?_, by omega, fun _ => ?_⟩ <;>
    · rw [show at_ = (at_ - k) + k by omega, Nat.pow_add, ← Nat.mul_assoc, Nat.mul_mod_left]
      try simp
theorem burst_div (q at_ k : Nat) (h0 : q * 2 ^ at_ % 2 ^ k = 0) (hq : q ≠ 0) : ∃ q' e, q * 2 ^ at_ / 2 ^ k = q' * 2 ^ e ∧ q' ≤ q ∧ q' ≠ 0 := by
  by_cases h : at_ ≤ k
  · refine ⟨q / 2 ^ (k - at_), 0, ?_, Nat.div_le_self _ _, ?_⟩
    · rw [show k = (k - at_) + at_ by omega, Nat.pow_add, Nat.mul_div_mul_right _ _ (Nat.two_pow_pos _)]
      rw [show k - at_ + at_ - at_ = k - at_ by omega]; simp
    · rw [show k = (k - at_) + at_ by omega, Nat.pow_add, Nat.mul_mod_mul_right] at h0
      intro hz
      have h1 : q % 2 ^ (k - at_) = 0 := by
        rcases Nat.mul_eq_zero.1 h0 with h2 | h2
        · exact h2
        · exact absurd h2 (Nat.pos_iff_ne_zero.1 (Nat.two_pow_pos _))
      have := Nat.div_add_mod q (2 ^ (k - at_))
      rw [hz, h1] at this
      omega
  · refine ⟨q, at_ - k, ?_, Nat.le_refl _, hq⟩
    rw [show at_ = (at_ - k) + k by omega, Nat.pow_add, ← Nat.mul_assoc, Nat.mul_div_cancel _ (Nat.two_pow_pos _)]
    rw [show at_ - k + k - k = at_ - k by omega]

/-- A frame in which bits are turned within 32 is refused, whatever stands behind it. -/
theorem spoilt_refused (k : Nat) (p t y : List UInt8) (hk : 1 ≤ k) (hk2 : k ≤ 255) (hp : p.length ≤ 65536) (q at_ : Nat) (hq : q < 4294967296) (h0 : q ≠ 0)
    (hl : t.length = (frameB k p).length) (hx : Xn t ^^^ Xn (frameB k p) = q * 2 ^ at_) (a : Nat) : (parseAt a (t ++ y)).2.2.2 ≠ 0 := by
  intro herr
  obtain ⟨k', g1, g2, g3, g4, g5, g6, g7⟩ := parse_only a (t ++ y) _ rfl herr
  have hfl := frameB_length k p
  obtain ⟨p', hp'⟩ : ∃ p', (parseAt a (t ++ y)).2.1 = p' := ⟨_, rfl⟩
  rw [hp'] at g4 g6 g7
  -- the parts of what was made and of what is taken
  obtain ⟨_, _, _, s3, s4, _, s6, s7, s8⟩ := frame_parts k p [] hk hk2 hp
  simp only [List.append_nil] at s3 s4 s6 s7 s8
  have hfr := frame_parts k' p' ((t ++ y).drop (p'.length + 14)) g1 g2 g4
  rw [← g6, List.take_append_drop] at hfr
  obtain ⟨_, _, _, t3, t4, _, t6, t7, t8⟩ := hfr
  have ht14 : 14 ≤ t.length := by omega
  have cutd : ∀ i j, i + j ≤ t.length → ((t ++ y).drop i).take j = (t.drop i).take j := by
    intro i j hij
    rw [List.drop_append_of_le_length (by omega), List.take_append_of_le_length (by simp; omega)]
  have cut0 : ∀ j, j ≤ t.length → (t ++ y).take j = t.take j := fun j hj => List.take_append_of_le_length hj
  rw [cutd 6 4 (by omega)] at t4
  rw [cut0 6 (by omega)] at t3
  rw [cutd 2 4 (by omega)] at t6
  have ten : ∀ l : List UInt8, 10 ≤ l.length → l.take 10 = l.take 6 ++ (l.drop 6).take 4 := fun l _ => by
    rw [show 10 = 6 + 4 by rfl, List.take_add]
  -- the first ten bytes
  have r1 : Crc.crc Crc.M (t.take 10) = rbN 32 Crc.M := by
    rw [ten t (by omega)]; exact sum_residue _ _ (by rw [t4, t3])
  have r2 : Crc.crc Crc.M ((frameB k p).take 10) = rbN 32 Crc.M := by
    rw [ten _ (by omega)]; exact sum_residue _ _ (by rw [s4, s3])
  obtain ⟨q1, e1, e2, e3⟩ := burst_mod q at_ 80
  have x10 : Xn (t.take 10) ^^^ Xn ((frameB k p).take 10) = q1 * 2 ^ at_ := by
    rw [Xn_take _ _ (by omega), Xn_take _ _ (by omega), ← Nat.xor_mod_two_pow, hx]; exact e1
  have hq1 := no_burst _ _ (by simp; omega) (r1.trans r2.symm) q1 at_ x10 (by omega)
  have hz := e3 hq1
  -- so they are as they were: the payload is as long
  have hten : t.take 10 = (frameB k p).take 10 := by
    have hxe : Xn (t.take 10) = Xn ((frameB k p).take 10) := by
      apply xor_eq_zero; rw [x10, hq1]; simp
    have inj : ∀ (u v : List UInt8), u.length = v.length → Xn u = Xn v → u = v := by
      intro u
      induction u with
      | nil => intro v hv _; exact (List.eq_nil_of_length_eq_zero hv.symm).symm
      | cons c u ih =>
        intro v hv he
        match v, hv with
        | d :: v, hv =>
          have hc := c.toNat_lt
          have hd := d.toNat_lt
          simp only [Xn] at he
          have h1 : c.toNat = d.toNat := by omega
          have h2 : Xn u = Xn v := by omega
          rw [UInt8.toNat_inj.1 h1, ih v (by simpa using hv) h2]
    exact inj _ _ (by simp; omega) hxe
  have hlen : p'.length = p.length := by
    have h26 : (t.drop 2).take 4 = ((frameB k p).drop 2).take 4 := by
      have : ∀ l : List UInt8, (l.drop 2).take 4 = ((l.take 10).drop 2).take 4 := fun l => by
        rw [List.drop_take, List.take_take]; congr 1
      rw [this t, this (frameB k p), hten]
    rw [s6, t6] at h26
    have := congrArg (numB 0) h26
    rw [numB_fixed4 _ (by omega), numB_fixed4 _ (by omega)] at this
    exact this
  rw [hlen] at t7 t8
  rw [cutd 10 p.length (by omega)] at t7
  rw [cutd (10 + p.length) 4 (by omega)] at t8
  have hhead : t.take 6 = (frameB k p).take 6 := by
    have : ∀ l : List UInt8, l.take 6 = (l.take 10).take 6 := fun l => by rw [List.take_take]; congr 1
    rw [this t, this (frameB k p), hten]
  -- the rest: the payload and its sum, behind the head
  have rest : ∀ l : List UInt8, l.length = p.length + 14 → l.drop 10 = (l.drop 10).take p.length ++ (l.drop (10 + p.length)).take 4 := fun l hl => by
    have e : l.drop (10 + p.length) = (l.drop 10).drop p.length := by rw [List.drop_drop]
    rw [e, ← List.take_add, List.take_of_length_le (by simp; omega)]
  have q1' : Crc.crc Crc.M (t.take 6 ++ t.drop 10) = rbN 32 Crc.M := by
    rw [rest t (by omega), ← List.append_assoc]
    refine sum_residue _ _ ?_
    rw [t8, t7, t3, hlen]
  have q2' : Crc.crc Crc.M ((frameB k p).take 6 ++ (frameB k p).drop 10) = rbN 32 Crc.M := by
    rw [rest _ (by omega), ← List.append_assoc]
    refine sum_residue _ _ ?_
    rw [s8, s7, s3]
  obtain ⟨q2, e4, e5, e6, e7⟩ := burst_div q at_ 80 hz h0
  have hX : Xn (t.take 6 ++ t.drop 10) ^^^ Xn ((frameB k p).take 6 ++ (frameB k p).drop 10) = q2 * 2 ^ (e4 + 48) := by
    have hl6 : (t.take 6).length = 6 := by simp; omega
    have hl6' : ((frameB k p).take 6).length = 6 := by simp; omega
    rw [Xn_append, Xn_append, hl6, hl6', hhead, pow256]
    have hlt := Xn_lt ((frameB k p).take 6)
    rw [hl6', pow256] at hlt
    rw [Xn_drop _ _ (by omega), Xn_drop _ _ (by omega)]
    generalize Xn ((frameB k p).take 6) = z at *
    have hxd : Xn t / 2 ^ (8 * 10) ^^^ Xn (frameB k p) / 2 ^ (8 * 10) = q2 * 2 ^ e4 := by
      rw [← Nat.xor_div_two_pow, hx]; exact e5
    generalize Xn t / 2 ^ (8 * 10) = u at *
    generalize Xn (frameB k p) / 2 ^ (8 * 10) = v at *
    have join : ∀ w : Nat, z + 2 ^ (8 * 6) * w = z ^^^ (2 ^ (8 * 6) * w) := by
      intro w
      have h2 := Nat.two_pow_add_eq_or_of_lt (i := 48) (b := z) hlt w
      rw [show z + 2 ^ (8 * 6) * w = 2 ^ 48 * w + z by omega, h2]
      apply Nat.eq_of_testBit_eq
      intro i
      rw [Nat.testBit_xor, Nat.testBit_or]
      by_cases hi : i < 48
      · have : (2 ^ 48 * w).testBit i = false := by rw [Nat.testBit_two_pow_mul]; simp; omega
        rw [show 2 ^ (8 * 6) * w = 2 ^ 48 * w by rfl, this]; simp
      · have : z.testBit i = false := by
          apply Nat.testBit_lt_two_pow
          calc z < 2 ^ 48 := hlt
            _ ≤ 2 ^ i := Nat.pow_le_pow_right (by omega) (by omega)
        rw [this]; simp
    rw [join u, join v]
    have e8 : (z ^^^ 2 ^ (8 * 6) * u) ^^^ (z ^^^ 2 ^ (8 * 6) * v) = 2 ^ (8 * 6) * u ^^^ 2 ^ (8 * 6) * v := by
      rw [Nat.xor_comm z (2 ^ (8 * 6) * u), Nat.xor_assoc, Crc.xor_self_left]
    have sh : ∀ w : Nat, 2 ^ (8 * 6) * w = w <<< 48 := fun w => by rw [Nat.shiftLeft_eq, Nat.mul_comm]
    rw [e8, sh u, sh v, ← Nat.shiftLeft_xor_distrib, hxd, Nat.shiftLeft_eq, Nat.mul_assoc, ← Nat.pow_add]
  exact e7 (no_burst _ _ (by simp; omega) (q1'.trans q2'.symm) q2 (e4 + 48) hX (by omega))

theorem xor_shift (m n a : Nat) : (m * 2 ^ a) ^^^ (n * 2 ^ a) = (m ^^^ n) * 2 ^ a := by
  rw [← Nat.shiftLeft_eq, ← Nat.shiftLeft_eq, ← Nat.shiftLeft_eq, Nat.shiftLeft_xor_distrib]
theorem xor_top (m k : Nat) (h : m < 2 ^ k) : m ^^^ 2 ^ k = m + 2 ^ k := by
  have h2 := Nat.two_pow_add_eq_or_of_lt (i := k) (b := m) h 1
  rw [Nat.mul_one] at h2
  rw [Nat.add_comm, h2]
  apply Nat.eq_of_testBit_eq
  intro i
  rw [Nat.testBit_xor, Nat.testBit_or]
  by_cases hi : i < k
  · have : (2 ^ k).testBit i = false := by rw [Nat.testBit_two_pow]; simp; omega
    rw [this]; simp
  · have : m.testBit i = false := by
      apply Nat.testBit_lt_two_pow
      exact Nat.lt_of_lt_of_le h (Nat.pow_le_pow_right (by omega) (by omega))
    rw [this]; simp
theorem burst_step (p k a : Nat) (h : p / 2 ^ k % 2 = 1) : (p % 2 ^ k * 2 ^ a) ^^^ 2 ^ (a + k) = p % 2 ^ (k + 1) * 2 ^ a := by
  rw [Nat.add_comm a k, Nat.pow_add, xor_shift, xor_top _ _ (Nat.mod_lt _ (Nat.two_pow_pos _)), Nat.mod_pow_succ, h, Nat.mul_one]
theorem burst_none (p k : Nat) (h : p / 2 ^ k % 2 = 0) : p % 2 ^ k = p % 2 ^ (k + 1) := by
  rw [Nat.mod_pow_succ, h]; simp
theorem Xn_set (c : List UInt8) (i j : Nat) (d' : UInt8) (h : i < c.length) (hd : d'.toNat = (c.getD i 0).toNat ^^^ 2 ^ j) : Xn (c.set i d') = Xn c ^^^ 2 ^ (8 * i + j) := by
  induction c generalizing i with
  | nil => simp at h
  | cons x l ih =>
    have hx := x.toNat_lt
    have hd2 := d'.toNat_lt
    cases i with
    | zero =>
      simp only [List.getD_cons_zero] at hd
      simp only [List.set_cons_zero, Xn]
      rw [xor_add _ _ (by omega), xor_add _ _ (by omega), hd, show 8 * 0 + j = j by omega, Nat.xor_assoc, Nat.xor_comm (2 ^ j), ← Nat.xor_assoc]
    | succ i =>
      simp only [List.getD_cons_succ] at hd
      have := ih i (by simpa using h) hd
      simp only [List.set_cons_succ, Xn]
      rw [xor_add _ _ (by omega), xor_add _ _ (by omega), this]
      have e : 256 * (Xn l ^^^ 2 ^ (8 * i + j)) = 256 * Xn l ^^^ 2 ^ (8 * (i + 1) + j) := by
        rw [show 256 * (Xn l ^^^ 2 ^ (8 * i + j)) = (Xn l ^^^ 2 ^ (8 * i + j)) * 2 ^ 8 by omega, ← xor_shift, ← Nat.pow_add, show 8 * i + j + 8 = 8 * (i + 1) + j by omega, show Xn l * 2 ^ 8 = 256 * Xn l by omega]
      rw [e, ← Nat.xor_assoc]
theorem byte_xor_lt (d : UInt8) (j : Nat) (hj : j < 8) : d.toNat ^^^ 2 ^ j < 256 := by
  have hd := d.toNat_lt
  exact Nat.xor_lt_two_pow (n := 8) (by omega) (Nat.pow_lt_pow_right (by omega) hj)
end Go.Proofs.YtebbmifpidbdlaaDoor

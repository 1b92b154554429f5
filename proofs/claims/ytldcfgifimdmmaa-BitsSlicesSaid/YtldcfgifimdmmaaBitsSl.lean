/-
  LAW: BitsSlices. The text is within the reach.
-/
import Derived.Test.YtldcfgifimdmmaaBits2
namespace Go.Proofs.Ytldcfgifimdmmaa
open Go.RowKit
set_option linter.unusedVariables false

/-- The two parts of a number. -/
theorem slice_parts (l : List UInt8) (g c k : Nat) (hk : k ≤ c) : numOf (bitsOf l g c) = numOf (bitsOf l g k) * 2 ^ (c - k) + numOf (bitsOf l (g + k) (c - k)) := by
  have h : c = k + (c - k) := by omega
  generalize hd : c - k = d at *
  subst h
  rw [bitsOf_add, numOf_append, bitsOf_length]

set_option maxRecDepth 100000 in
set_option maxHeartbeats 1000000 in
theorem BitsSlices_walk (a0 : ByteArray) (s0 : a0.size ≤ 140737488351232) (a1 : Int) (w1 : (Lit.int .i64 a1).wf = true) (a2 : Int) (w2 : (Lit.int .i64 a2).wf = true) (a3 : Int) (w3 : (Lit.int .i64 a3).wf = true) (w : World) :
    Calls Try.prog 4 #[.string a0, .int .i64 a1, .int .i64 a2, .int .i64 a3] w fun e w' => e = .returned (.bool true) ∧ Below w.heap.size w w' := by
  have hlen : a0.data.toList.length = a0.size := rfl
  have k2 := Slice_calls ⟨#[128]⟩ (by decide) 0 1
  rw [show sliceR (⟨#[128]⟩ : ByteArray).data.toList 0 1 = (1, 0) by decide] at k2
  have C2 := Lib.hid k2
  clear k2
  by_cases hbad : a2 < 0 ∨ 64 < a2 ∨ 8 * (a0.size : Int) < a2 ∨ a1 < 0 ∨ 8 * (a0.size : Int) - a2 < a1
  · have hp : sliceR a0.data.toList a1 a2 = (0, 13) := by unfold sliceR; rw [if_pos (by rw [hlen]; exact hbad)]
    have k1 := Slice_calls a0 s0 a1 a2
    rw [hp] at k1
    have C1 := Lib.hid k1
    clear k1 hp hlen hbad w1 w2 w3
    go_enter Try.func4, Try.ntmps4
    go_wp2_with fail
    refine (C1.out w).mono ?_
    rintro e w1 ⟨rfl, h1⟩
    go_wp2_with fail
    refine (C2.out w1).mono ?_
    rintro e w2 ⟨rfl, h2⟩
    have hB := h1.trans (h2.mono h1.size)
    clear C1 C2 h1 h2
    go_wp2
    go_ret
    exact ⟨rfl, hB⟩
  have hsl : ∀ g c : Nat, c ≤ 64 → g + c ≤ 8 * a0.size → sliceR a0.data.toList g c = (numOf (bitsOf a0.data.toList g c), 0) := by
    intro g c h1 h2
    unfold sliceR; rw [if_neg (by rw [hlen]; omega)]; simp
  have hbt : ∀ i : Nat, i < 8 * a0.size → bitR a0.data.toList i = ((bitB a0.data.toList i).toNat, 0) := by
    intro i h
    unfold bitR; rw [if_neg (by rw [hlen]; omega)]; simp
  have CS : ∀ g c : Nat, c ≤ 64 → g + c ≤ 8 * a0.size → ∀ W : World, Calls Try.prog 8 #[.string a0, .int .i64 g, .int .i64 c] W fun e w' => e = .returned (.tuple #[.int .u64 (numOf (bitsOf a0.data.toList g c) : Nat), .int .i64 0]) ∧ Below W.heap.size W w' := by
    intro g c h1 h2 W
    have := Slice_calls a0 s0 g c W
    rw [hsl g c h1 h2] at this
    exact this
  have CB : ∀ i : Nat, i < 8 * a0.size → ∀ W : World, Calls Try.prog 9 #[.string a0, .int .i64 i] W fun e w' => e = .returned (.tuple #[.int .i64 ((bitB a0.data.toList i).toNat : Nat), .int .i64 0]) ∧ W = w' := by
    intro i h W
    have := Bit_calls a0 s0 i W
    rw [hbt i h] at this
    exact this
  have HCS := Lib.hid CS
  have HCB := Lib.hid CB
  obtain ⟨c, rfl⟩ := Int.eq_ofNat_of_zero_le (show 0 ≤ a2 by omega)
  obtain ⟨g, rfl⟩ := Int.eq_ofNat_of_zero_le (show 0 ≤ a1 by omega)
  have hc : c ≤ 64 := by omega
  have hgc : g + c ≤ 8 * a0.size := by omega
  clear hlen CS CB hsl hbt hbad w1 w2
  go_enter Try.func4, Try.ntmps4
  go_wp2_with fail
  refine (HCS.out g c hc hgc w).mono ?_
  rintro e w1 ⟨rfl, h1⟩
  go_wp2_with fail
  refine (C2.out w1).mono ?_
  rintro e w2 ⟨rfl, h2⟩
  have hB := h1.trans (h2.mono h1.size)
  clear C2 h1 h2
  go_wp2
  go_loop [13, 14] (fun v i => ∃ k : Nat, k ≤ c ∧ i = .int .i64 k ∧ v = .int .u64 (numOf (bitsOf a0.data.toList g k) : Nat)) (fun _ i => c - (intOf i).toNat)
  case atStart => exact ⟨0, Nat.zero_le _, rfl, rfl⟩
  case round =>
    obtain ⟨k, hk, rfl, rfl⟩ := hrel
    by_cases hlt : k < c
    · have hbd := numOf_lt (bitsOf a0.data.toList g k)
      rw [bitsOf_length] at hbd
      have hp : 2 ^ k ≤ 2 ^ 63 := Nat.pow_le_pow_right (by omega) (by omega)
      have h63 : (2 : Nat) ^ 63 = 9223372036854775808 := by decide
      obtain ⟨v, hv⟩ : ∃ v, numOf (bitsOf a0.data.toList g k) = v := ⟨_, rfl⟩
      have hnx : numOf (bitsOf a0.data.toList g (k + 1)) = 2 * v + (bitB a0.data.toList (g + k)).toNat := by rw [bitsOf_succ, numOf_snoc, hv]
      rw [hv] at hbd
      rw [hv]
      have hv2 : 2 * v < 18446744073709551615 := by omega
      have hx1 : (bitB a0.data.toList (g + k)).toNat ≤ 1 := by cases bitB a0.data.toList (g + k) <;> decide
      obtain ⟨x, hx⟩ : ∃ x, (bitB a0.data.toList (g + k)).toNat = x := ⟨_, rfl⟩
      have hbc := HCB.out (g + k) (by omega)
      rw [hx] at hbc hnx hx1
      have HX := Lib.hid hnx
      clear hbd hp h63 hv hnx hx
      go_wp2_with fail
      refine (hbc _).mono ?_
      rintro e w3 ⟨rfl, rfl⟩
      go_wp2
      go_round
      case rel => exact ⟨k + 1, by omega, by go_num, by rw [HX.out]; go_num⟩
      case measure => simp [intOf]; omega
    · obtain rfl : k = c := by omega
      have hge : ¬ ((k : Int) < (k : Int)) := by omega
      clear hge
      by_cases hk1 : a3 < 0
      · obtain ⟨kk, hkk⟩ : ∃ q, k / 2 = q := ⟨_, rfl⟩
        obtain ⟨d, rfl⟩ : ∃ d, k = kk + d := ⟨k - kk, by omega⟩
        have hki : ((kk : Int) + (d : Int)) / 2 = (kk : Int) := by omega
        go_wp2_with fail
        refine (HCS.out g kk (by omega) (by omega) _).mono ?_
        rintro e w3 ⟨rfl, h3⟩
        have hdd : (kk : Int) + (d : Int) - (kk : Int) = (d : Int) := by omega
        have hb := HCS.out (g + kk) d (by omega) (by omega)
        rw [show ((g + kk : Nat) : Int) = (g : Int) + kk by omega] at hb
        go_wp2_with fail
        refine (hb _).mono ?_
        rintro e w4 ⟨rfl, h4⟩
        have hB4 := hB.trans ((h3.mono hB.size).trans (h4.mono (Nat.le_trans hB.size h3.size)))
        have hsum := slice_parts a0.data.toList g (kk + d) kk (by omega)
        rw [Nat.add_sub_cancel_left] at hsum
        have la := numOf_lt (bitsOf a0.data.toList g kk)
        have lb := numOf_lt (bitsOf a0.data.toList (g + kk) d)
        have lv := numOf_lt (bitsOf a0.data.toList g (kk + d))
        rw [bitsOf_length] at la lb lv
        have p64 : 2 ^ (kk + d) ≤ 2 ^ 64 := Nat.pow_le_pow_right (by omega) (by omega)
        obtain ⟨a, ha⟩ : ∃ a, numOf (bitsOf a0.data.toList g kk) = a := ⟨_, rfl⟩
        obtain ⟨b, hbn⟩ : ∃ b, numOf (bitsOf a0.data.toList (g + kk) d) = b := ⟨_, rfl⟩
        obtain ⟨v, hv⟩ : ∃ v, numOf (bitsOf a0.data.toList g (kk + d)) = v := ⟨_, rfl⟩
        simp only [ha, hbn, hv] at hsum la lb lv ⊢
        have h64 : (2 : Nat) ^ 64 = 18446744073709551616 := by decide
        clear h3 h4 hb ha hbn hv
        by_cases hd : d = 64
        · obtain rfl : kk = 0 := by omega
          have a00 : a = 0 := by simpa using la
          subst hd a00
          have hvb : v = b := by omega
          subst hvb
          clear la lb lv hsum p64
          go_wp2
          go_ret
          exact ⟨by simp, hB4⟩
        · have hshl : a * 2 ^ d < 18446744073709551616 := by omega
          have hor : bits .or .u64 ((a * 2 ^ d : Nat) : Int) (b : Int) = ((v : Nat) : Int) := by
            rw [u64_or_nat _ _ hshl (by omega), nat_join d (a * 2 ^ d) b (Nat.mul_mod_left _ _) lb, hsum]
          have hfin : bits .or .u64 (IntKind.u64.wrap ((a : Int) * 2 ^ d)) (b : Int) = (a : Int) * 2 ^ d + (b : Int) := by
            rw [IntKind.wrap_u64, show ((a : Int) * 2 ^ d) = ((a * 2 ^ d : Nat) : Int) by simp, show ((a * 2 ^ d : Nat) : Int) % 18446744073709551616 = ((a * 2 ^ d : Nat) : Int) by omega, hor, hsum]
            simp
          clear hor
          go_wp2
          go_ret
          refine ⟨?_, hB4⟩
          first | rfl | (simp only [hfin]; simp) | simp [hfin]
      by_cases hk2 : (k : Int) < a3
      · obtain ⟨kk, hkk⟩ : ∃ q, k / 2 = q := ⟨_, rfl⟩
        obtain ⟨d, rfl⟩ : ∃ d, k = kk + d := ⟨k - kk, by omega⟩
        have hki : ((kk : Int) + (d : Int)) / 2 = (kk : Int) := by omega
        go_wp2_with fail
        refine (HCS.out g kk (by omega) (by omega) _).mono ?_
        rintro e w3 ⟨rfl, h3⟩
        have hdd : (kk : Int) + (d : Int) - (kk : Int) = (d : Int) := by omega
        have hb := HCS.out (g + kk) d (by omega) (by omega)
        rw [show ((g + kk : Nat) : Int) = (g : Int) + kk by omega] at hb
        go_wp2_with fail
        refine (hb _).mono ?_
        rintro e w4 ⟨rfl, h4⟩
        have hB4 := hB.trans ((h3.mono hB.size).trans (h4.mono (Nat.le_trans hB.size h3.size)))
        have hsum := slice_parts a0.data.toList g (kk + d) kk (by omega)
        rw [Nat.add_sub_cancel_left] at hsum
        have la := numOf_lt (bitsOf a0.data.toList g kk)
        have lb := numOf_lt (bitsOf a0.data.toList (g + kk) d)
        have lv := numOf_lt (bitsOf a0.data.toList g (kk + d))
        rw [bitsOf_length] at la lb lv
        have p64 : 2 ^ (kk + d) ≤ 2 ^ 64 := Nat.pow_le_pow_right (by omega) (by omega)
        obtain ⟨a, ha⟩ : ∃ a, numOf (bitsOf a0.data.toList g kk) = a := ⟨_, rfl⟩
        obtain ⟨b, hbn⟩ : ∃ b, numOf (bitsOf a0.data.toList (g + kk) d) = b := ⟨_, rfl⟩
        obtain ⟨v, hv⟩ : ∃ v, numOf (bitsOf a0.data.toList g (kk + d)) = v := ⟨_, rfl⟩
        simp only [ha, hbn, hv] at hsum la lb lv ⊢
        have h64 : (2 : Nat) ^ 64 = 18446744073709551616 := by decide
        clear h3 h4 hb ha hbn hv
        by_cases hd : d = 64
        · obtain rfl : kk = 0 := by omega
          have a00 : a = 0 := by simpa using la
          subst hd a00
          have hvb : v = b := by omega
          subst hvb
          clear la lb lv hsum p64
          go_wp2
          go_ret
          exact ⟨by simp, hB4⟩
        · have hshl : a * 2 ^ d < 18446744073709551616 := by omega
          have hor : bits .or .u64 ((a * 2 ^ d : Nat) : Int) (b : Int) = ((v : Nat) : Int) := by
            rw [u64_or_nat _ _ hshl (by omega), nat_join d (a * 2 ^ d) b (Nat.mul_mod_left _ _) lb, hsum]
          have hfin : bits .or .u64 (IntKind.u64.wrap ((a : Int) * 2 ^ d)) (b : Int) = (a : Int) * 2 ^ d + (b : Int) := by
            rw [IntKind.wrap_u64, show ((a : Int) * 2 ^ d) = ((a * 2 ^ d : Nat) : Int) by simp, show ((a * 2 ^ d : Nat) : Int) % 18446744073709551616 = ((a * 2 ^ d : Nat) : Int) by omega, hor, hsum]
            simp
          clear hor
          go_wp2
          go_ret
          refine ⟨?_, hB4⟩
          first | rfl | (simp only [hfin]; simp) | simp [hfin]
      · obtain ⟨kk, rfl⟩ := Int.eq_ofNat_of_zero_le (show 0 ≤ a3 by omega)
        obtain ⟨d, rfl⟩ : ∃ d, k = kk + d := ⟨k - kk, by omega⟩
        go_wp2_with fail
        refine (HCS.out g kk (by omega) (by omega) _).mono ?_
        rintro e w3 ⟨rfl, h3⟩
        have hdd : (kk : Int) + (d : Int) - (kk : Int) = (d : Int) := by omega
        have hb := HCS.out (g + kk) d (by omega) (by omega)
        rw [show ((g + kk : Nat) : Int) = (g : Int) + kk by omega] at hb
        go_wp2_with fail
        refine (hb _).mono ?_
        rintro e w4 ⟨rfl, h4⟩
        have hB4 := hB.trans ((h3.mono hB.size).trans (h4.mono (Nat.le_trans hB.size h3.size)))
        have hsum := slice_parts a0.data.toList g (kk + d) kk (by omega)
        rw [Nat.add_sub_cancel_left] at hsum
        have la := numOf_lt (bitsOf a0.data.toList g kk)
        have lb := numOf_lt (bitsOf a0.data.toList (g + kk) d)
        have lv := numOf_lt (bitsOf a0.data.toList g (kk + d))
        rw [bitsOf_length] at la lb lv
        have p64 : 2 ^ (kk + d) ≤ 2 ^ 64 := Nat.pow_le_pow_right (by omega) (by omega)
        obtain ⟨a, ha⟩ : ∃ a, numOf (bitsOf a0.data.toList g kk) = a := ⟨_, rfl⟩
        obtain ⟨b, hbn⟩ : ∃ b, numOf (bitsOf a0.data.toList (g + kk) d) = b := ⟨_, rfl⟩
        obtain ⟨v, hv⟩ : ∃ v, numOf (bitsOf a0.data.toList g (kk + d)) = v := ⟨_, rfl⟩
        simp only [ha, hbn, hv] at hsum la lb lv ⊢
        have h64 : (2 : Nat) ^ 64 = 18446744073709551616 := by decide
        clear h3 h4 hb ha hbn hv
        by_cases hd : d = 64
        · obtain rfl : kk = 0 := by omega
          have a00 : a = 0 := by simpa using la
          subst hd a00
          have hvb : v = b := by omega
          subst hvb
          clear la lb lv hsum p64
          go_wp2
          go_ret
          exact ⟨by simp, hB4⟩
        · have hshl : a * 2 ^ d < 18446744073709551616 := by omega
          have hor : bits .or .u64 ((a * 2 ^ d : Nat) : Int) (b : Int) = ((v : Nat) : Int) := by
            rw [u64_or_nat _ _ hshl (by omega), nat_join d (a * 2 ^ d) b (Nat.mul_mod_left _ _) lb, hsum]
          have hfin : bits .or .u64 (IntKind.u64.wrap ((a : Int) * 2 ^ d)) (b : Int) = (a : Int) * 2 ^ d + (b : Int) := by
            rw [IntKind.wrap_u64, show ((a : Int) * 2 ^ d) = ((a * 2 ^ d : Nat) : Int) by simp, show ((a * 2 ^ d : Nat) : Int) % 18446744073709551616 = ((a * 2 ^ d : Nat) : Int) by omega, hor, hsum]
            simp
          clear hor
          go_wp2
          go_ret
          refine ⟨?_, hB4⟩
          first | rfl | (simp only [hfin]; simp) | simp [hfin]
end Go.Proofs.Ytldcfgifimdmmaa

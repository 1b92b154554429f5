/-
  WALK: one bit of a code.
-/
import Derived.Test.YtcdlmjbjpeokfaaCodeP
import Derived.WalkKit
import Derived.WalkLawsBesides
namespace Go.Proofs.Ytcdlmjbjpeokfaa
open Go.RowKit
set_option linter.unusedVariables false

theorem and_one_i64 (a : Nat) (ha : a < 9223372036854775808) : bits .and .i64 (a : Int) 1 = ((a % 2 : Nat) : Int) := by
  have hx : a &&& 1 < 2 ^ 63 := Nat.and_lt_two_pow _ (by omega)
  have o1 : (BitVec.ofInt 64 (a : Int)).toNat = a := by rw [BitVec.ofInt_natCast, BitVec.toNat_ofNat]; exact Nat.mod_eq_of_lt (by omega)
  have o2 : (BitVec.ofInt 64 (1 : Int)).toNat = 1 := by decide
  show IntKind.i64.wrap ((BitVec.ofInt 64 (a : Int) &&& BitVec.ofInt 64 (1 : Int)).toNat : Int) = _
  rw [BitVec.toNat_and, o1, o2, Nat.and_one_is_mod, IntKind.wrap_i64]
  omega

set_option maxHeartbeats 1000000 in
theorem bit_calls (s : ByteArray) (hs : s.size ≤ 140737488351232) (i : Nat) (h : i < 8 * s.size) (w : World) :
    Calls Try.prog 30 #[.string s, .int .i64 i] w fun e w' => e = .returned (.int .i64 ((bitB s.data.toList i).toNat : Int)) ∧ w = w' := by
  have hi : i / 8 < s.size := by omega
  have hc := s[i / 8].toNat_lt
  obtain ⟨q, hqd⟩ : ∃ q, s[i / 8].toNat / 2 ^ (7 - i % 8) = q := ⟨_, rfl⟩
  have hq256 : q < 256 := by rw [← hqd]; exact Nat.lt_of_le_of_lt (Nat.div_le_self _ _) (by omega)
  have hq : ((s[i / 8].toNat : Int) / 2 ^ (7 - i % 8)) = (q : Int) := by rw [← hqd]; simp
  have hand := and_one_i64 q (by omega)
  have hfin : q % 2 = (bitB s.data.toList i).toNat := by
    rw [bitB_toNat, ← hqd]
    simp [List.getD, hi]; rfl
  rw [hfin] at hand
  clear hfin hqd
  go_enter Try.func30, Try.ntmps30
  go_wp2
  go_ret
  exact ⟨rfl, rfl⟩

set_option maxHeartbeats 1000000 in
theorem BitIn_calls (s : ByteArray) (hs : s.size ≤ 140737488351232) (n : Nat) (hn : n < 8 * s.size) (w : World) :
    Calls Try.prog 23 #[.string s, .int .i64 n] w fun e w' => e = .returned (.tuple #[.int .i64 ((bitB s.data.toList n).toNat : Int), .int .i64 0]) ∧ w = w' := by
  have h1 : ¬ (n : Int) < 0 := by omega
  have h2 : ¬ 8 * (s.size : Int) ≤ (n : Int) := by omega
  go_enter Try.func23, Try.ntmps23
  go_wp2_with fail
  refine (bit_calls s hs n (by omega) w).mono ?_
  rintro e w1 ⟨rfl, rfl⟩
  go_wp2
  go_ret2
  exact ⟨rfl, rfl⟩
end Go.Proofs.Ytcdlmjbjpeokfaa

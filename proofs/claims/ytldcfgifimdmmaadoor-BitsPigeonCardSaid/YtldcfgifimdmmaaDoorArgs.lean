/-
  WALKS: arguments of the plain laws of layer 1: a width out of any number, a number of chunks that goes with it; lists of ints held side by side.
-/
import Derived.Test.YtldcfgifimdmmaaDoorWidth
import Derived.Test.YtldcfgifimdmmaaDoorChunksP
import Derived.Test.YtldcfgifimdmmaaDoorMem
import Derived.Test.YtldcfgifimdmmaaDoorKit
import Derived.Test.YtldcfgifimdmmaaDoorRows2
namespace Go.Proofs.YtldcfgifimdmmaaDoor
open Go.RowKit
set_option linter.unusedVariables false

theorem and_mask_i64 (a : Int) (m k : Nat) (hm : m + 1 = 2 ^ k) (hk : k ≤ 62) : bits .and .i64 a (m : Int) = a % ((2 ^ k : Nat) : Int) := by
  have h62 : 2 ^ k ≤ 2 ^ 62 := Nat.pow_le_pow_right (by omega) hk
  have hd : 2 ^ k ∣ 2 ^ 64 := Nat.pow_dvd_pow 2 (by omega)
  have hm1 : m = 2 ^ k - 1 := by omega
  have o2 : (BitVec.ofInt 64 (m : Int)).toNat = m := by rw [BitVec.ofInt_natCast, BitVec.toNat_ofNat]; exact Nat.mod_eq_of_lt (by omega)
  have o1 : (BitVec.ofInt 64 a).toNat = (a % ((2 ^ 64 : Nat) : Int)).toNat := by rw [BitVec.toNat_ofInt]
  show IntKind.i64.wrap ((BitVec.ofInt 64 a &&& BitVec.ofInt 64 (m : Int)).toNat : Int) = _
  rw [BitVec.toNat_and, o1, o2, hm1, Nat.and_two_pow_sub_one_eq_mod]
  have hp : (0 : Int) < ((2 ^ k : Nat) : Int) := by have := Nat.two_pow_pos k; omega
  have e1 : (((a % ((2 ^ 64 : Nat) : Int)).toNat % 2 ^ k : Nat) : Int) = a % ((2 ^ k : Nat) : Int) := by
    rw [Int.natCast_emod, Int.toNat_of_nonneg (Int.emod_nonneg _ (Int.natCast_ne_zero.2 (Nat.pos_iff_ne_zero.1 (Nat.two_pow_pos 64))))]
    exact Int.emod_emod_of_dvd a (Int.natCast_dvd_natCast.2 hd)
  rw [e1, IntKind.wrap_i64]
  have g1 := Int.emod_nonneg a (Int.ne_of_gt hp)
  have g2 := Int.emod_lt_of_pos a hp
  have g3 : (((2 ^ k : Nat) : Int)) ≤ ((4611686018427387904 : Nat) : Int) := Int.ofNat_le.2 h62
  omega

def wOf (a : Int) : Nat := 64 * (1 + (a % 16).toNat)
def mOf (a b : Int) : Nat := (wOf a + 31) / 32 + (b % 2147483648).toNat % (wOf a / 8 - (wOf a + 31) / 32 + 1)
theorem wOf_ok (a b : Int) : 64 ≤ wOf a ∧ wOf a ≤ 1024 ∧ wOf a % 64 = 0 ∧ (wOf a + 31) / 32 ≤ mOf a b ∧ mOf a b ≤ wOf a / 8 := by
  have h1 : (a % 16).toNat < 16 := by omega
  have h2 : 64 ≤ wOf a ∧ wOf a ≤ 1024 ∧ wOf a % 64 = 0 := by unfold wOf; omega
  have h3 := Nat.mod_lt (b % 2147483648).toNat (show 0 < wOf a / 8 - (wOf a + 31) / 32 + 1 by omega)
  refine ⟨h2.1, h2.2.1, h2.2.2, ?_⟩
  unfold mOf
  omega
theorem wOf_chunked (a b : Int) : chunkedR (wOf a) (mOf a b) = 0 := by
  obtain ⟨h1, h2, h3, h4, h5⟩ := wOf_ok a b
  have hw : widthB (wOf a : Int) = true := by unfold widthB; simp; omega
  unfold chunkedR
  rw [hw, if_pos rfl, if_neg (by omega)]

set_option maxHeartbeats 1000000 in
theorem widths_calls (a b : Int) (w : World) :
    Calls Tryd.prog 18 #[.int .i64 a, .int .i64 b] w fun e w' => e = .returned (.tuple #[.int .i64 (wOf a : Nat), .int .i64 (mOf a b : Nat)]) ∧ Below w.heap.size w w' := by
  have e1 := and_mask_i64 a 15 4 (by decide) (by decide)
  have e2 := and_mask_i64 b 2147483647 31 (by decide) (by decide)
  obtain ⟨x, hx⟩ : ∃ x : Nat, a % 16 = x := ⟨(a % 16).toNat, by omega⟩
  obtain ⟨y, hy⟩ : ∃ y : Nat, b % 2147483648 = y := ⟨(b % 2147483648).toNat, by omega⟩
  have hx16 : x < 16 := by omega
  have hy31 : y < 2147483648 := by omega
  have hw : wOf a = 64 * (1 + x) := by unfold wOf; omega
  have hm : mOf a b = (64 * (1 + x) + 31) / 32 + y % (64 * (1 + x) / 8 - (64 * (1 + x) + 31) / 32 + 1) := by unfold mOf; rw [hw, hy]; simp
  have e1' : bits .and .i64 a 15 = (x : Int) := e1.trans hx
  have e2' : bits .and .i64 b 2147483647 = (y : Int) := e2.trans hy
  obtain ⟨l, hl⟩ : ∃ l, (64 * (1 + x) + 31) / 32 = l := ⟨_, rfl⟩
  obtain ⟨q, hq⟩ : ∃ q, 64 * (1 + x) / 8 = q := ⟨_, rfl⟩
  rw [hl, hq] at hm
  have hlq : l ≤ q := by omega
  have hl1 : (64 * (1 + (x : Int)) + 31) / 32 = (l : Int) := by omega
  have hq1 : (64 * (1 + (x : Int))) / 8 = (q : Int) := by omega
  have hr1 : (y : Int) % ((q : Int) - (l : Int) + 1) = ((y % (q - l + 1) : Nat) : Int) := by rw [Int.natCast_emod, show ((q - l + 1 : Nat) : Int) = (q : Int) - l + 1 by omega]
  have hrl := Nat.mod_lt y (show 0 < q - l + 1 by omega)
  rw [hm, hw]
  obtain ⟨r, hr⟩ : ∃ r, y % (q - l + 1) = r := ⟨_, rfl⟩
  rw [hr] at hr1 hrl
  rw [hr]
  clear hm hw e1 e2 hx hy hl hq hr
  go_enter Tryd.func18, Tryd.ntmps18
  go_wp2
  go_quiet (fail)
  go_wp2
  go_ret2
  refine ⟨?_, ?_⟩
  · simp
  · exact ⟨rfl, rfl, rfl, Nat.le_refl _, fun _ _ => rfl⟩

end Go.Proofs.YtldcfgifimdmmaaDoor

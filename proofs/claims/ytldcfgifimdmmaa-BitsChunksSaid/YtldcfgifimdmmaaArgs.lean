/-
  WALKS: arguments of the plain laws of layer 1: a width out of any number, a number of chunks that goes with it; lists of ints held side by side.
-/
import Derived.Test.YtldcfgifimdmmaaWidth
import Derived.Test.YtldcfgifimdmmaaChunksP
import Derived.Test.YtldcfgifimdmmaaMem
import Derived.Test.YtldcfgifimdmmaaKit
import Derived.Test.YtldcfgifimdmmaaRows2
namespace Go.Proofs.Ytldcfgifimdmmaa
open Go.RowKit
set_option linter.unusedVariables false

theorem and_mask_i64 (a : Int) (m k : Nat) (hm : m + 1 = 2 ^ k) (hk : k ≤ 62) : bits .and .i64 a (m : Int) = a % ((2 ^ k : Nat) : Int) := by
  have h62 : 2 ^ k ≤ 2 ^ 62 := Nat.pow_le_pow_right (by omega) hk
  have hd : 2 ^ k ∣ 2 ^ 64 := Nat.pow_dvd_pow 2 (by omega)
  have hm1 : m = 2 ^ k - 1 := by omega
  have o2 : (BitVec.ofInt 64 (m : Int)).toNat = m := by rw [BitVec.ofInt_natCast, BitVec.toNat_ofNat]; exact Nat.mod_eq_of_lt (by omega)
  have o1 : (BitVec.ofInt 64 a).toNat = (a % ((2 ^ 64 : Nat) : Int)).toNat := by rw [BitVec.toNat_ofInt]
  show IntKind.i64.wrap ((BitVec.ofInt 64 a &&& BitVec.ofInt 64 (m : Int)).toNat : Int) = _
  rw [BitVec.toNat_and, o1, o2, hm1, Nat.and_two_pow_sub_one_eq_mod]
  have hp : (0 : Int) < ((2 ^ k : Nat) : Int) := by have := Nat.two_pow_pos k; omega
  have e1 : (((a % ((2 ^ 64 : Nat) : Int)).toNat % 2 ^ k : Nat) : Int) = a % ((2 ^ k : Nat) : Int) := by
    rw [Int.natCast_emod, Int.toNat_of_nonneg (Int.emod_nonneg _ (Int.natCast_ne_zero.2 (Nat.pos_iff_ne_zero.1 (Nat.two_pow_pos 64))))]
    exact Int.emod_emod_of_dvd a (Int.natCast_dvd_natCast.2 hd)
  rw [e1, IntKind.wrap_i64]
  have g1 := Int.emod_nonneg a (Int.ne_of_gt hp)
  have g2 := Int.emod_lt_of_pos a hp
  have g3 : (((2 ^ k : Nat) : Int)) ≤ ((4611686018427387904 : Nat) : Int) := Int.ofNat_le.2 h62
  omega

def wOf (a : Int) : Nat := 64 * (1 + (a % 16).toNat)
def mOf (a b : Int) : Nat := (wOf a + 31) / 32 + (b % 2147483648).toNat % (wOf a / 8 - (wOf a + 31) / 32 + 1)
theorem wOf_ok (a b : Int) : 64 ≤ wOf a ∧ wOf a ≤ 1024 ∧ wOf a % 64 = 0 ∧ (wOf a + 31) / 32 ≤ mOf a b ∧ mOf a b ≤ wOf a / 8 := by
  have h1 : (a % 16).toNat < 16 := by omega
  have h2 : 64 ≤ wOf a ∧ wOf a ≤ 1024 ∧ wOf a % 64 = 0 := by unfold wOf; omega
  have h3 := Nat.mod_lt (b % 2147483648).toNat (show 0 < wOf a / 8 - (wOf a + 31) / 32 + 1 by omega)
  refine ⟨h2.1, h2.2.1, h2.2.2, ?_⟩
  unfold mOf
  omega
theorem wOf_chunked (a b : Int) : chunkedR (wOf a) (mOf a b) = 0 := by
  obtain ⟨h1, h2, h3, h4, h5⟩ := wOf_ok a b
  have hw : widthB (wOf a : Int) = true := by unfold widthB; simp; omega
  unfold chunkedR
  rw [hw, if_pos rfl, if_neg (by omega)]

set_option maxHeartbeats 1000000 in
theorem widths_calls (a b : Int) (w : World) :
    Calls Try.prog 17 #[.int .i64 a, .int .i64 b] w fun e w' => e = .returned (.tuple #[.int .i64 (wOf a : Nat), .int .i64 (mOf a b : Nat)]) ∧ Below w.heap.size w w' := by
  have e1 := and_mask_i64 a 15 4 (by decide) (by decide)
  have e2 := and_mask_i64 b 2147483647 31 (by decide) (by decide)
  obtain ⟨x, hx⟩ : ∃ x : Nat, a % 16 = x := ⟨(a % 16).toNat, by omega⟩
  obtain ⟨y, hy⟩ : ∃ y : Nat, b % 2147483648 = y := ⟨(b % 2147483648).toNat, by omega⟩
  have hx16 : x < 16 := by omega
  have hy31 : y < 2147483648 := by omega
  have hw : wOf a = 64 * (1 + x) := by unfold wOf; omega
  have hm : mOf a b = (64 * (1 + x) + 31) / 32 + y % (64 * (1 + x) / 8 - (64 * (1 + x) + 31) / 32 + 1) := by unfold mOf; rw [hw, hy]; simp
  have e1' : bits .and .i64 a 15 = (x : Int) := e1.trans hx
  have e2' : bits .and .i64 b 2147483647 = (y : Int) := e2.trans hy
  obtain ⟨l, hl⟩ : ∃ l, (64 * (1 + x) + 31) / 32 = l := ⟨_, rfl⟩
  obtain ⟨q, hq⟩ : ∃ q, 64 * (1 + x) / 8 = q := ⟨_, rfl⟩
  rw [hl, hq] at hm
  have hlq : l ≤ q := by omega
  have hl1 : (64 * (1 + (x : Int)) + 31) / 32 = (l : Int) := by omega
  have hq1 : (64 * (1 + (x : Int))) / 8 = (q : Int) := by omega
  have hr1 : (y : Int) % ((q : Int) - (l : Int) + 1) = ((y % (q - l + 1) : Nat) : Int) := by rw [Int.natCast_emod, show ((q - l + 1 : Nat) : Int) = (q : Int) - l + 1 by omega]
  have hrl := Nat.mod_lt y (show 0 < q - l + 1 by omega)
  rw [hm, hw]
  obtain ⟨r, hr⟩ : ∃ r, y % (q - l + 1) = r := ⟨_, rfl⟩
  rw [hr] at hr1 hrl
  rw [hr]
  clear hm hw e1 e2 hx hy hl hq hr
  go_enter Try.func17, Try.ntmps17
  go_wp2
  go_quiet (fail)
  go_wp2
  go_ret2
  refine ⟨?_, ?_⟩
  · simp
  · exact ⟨rfl, rfl, rfl, Nat.le_refl _, fun _ _ => rfl⟩

set_option maxHeartbeats 1000000 in
theorem sameInts_calls (v1 v2 : Value) (b1 b2 : Nat) (e1 e2 : TypeId) (z1 z2 : List Int) (h63 : z1.length < 4611686018427387904) (w : World) (h1 : w.ownsRow b1 e1 1 v1 z1.length (z1.map (Value.int .i64))) (h2 : w.ownsRow b2 e2 1 v2 z2.length (z2.map (Value.int .i64))) :
    Calls Try.prog 21 #[v1, v2] w fun e w' => e = .returned (.bool (decide (z1 = z2))) ∧ Below w.heap.size w w' := by
  obtain ⟨p1, c1, rfl, k1, m1, r1⟩ := own_rd h1
  obtain ⟨p2, c2, rfl, k2, m2, r2⟩ := own_rd h2
  by_cases hl : z1.length = z2.length
  · have hne : ((z1.length : Int) != (z2.length : Int)) = false := by rw [hl]; simp
    obtain ⟨n, hn⟩ : ∃ n, z1.length = n := ⟨_, rfl⟩
    have hn2 : z2.length = n := by omega
    have HN := Lib.hid hn
    have HN2 := Lib.hid hn2
    rw [hn, hn2] at hne
    rw [hn] at h63 k1 r1
    rw [hn2] at r2
    rw [hn, hn2]
    have R1 := Lib.hid r1
    have R2 := Lib.hid r2
    clear hl hn hn2 h1 h2 r1 r2
    go_enter Try.func21, Try.ntmps21
    go_wp2
    go_loopw [5] (fun i wr => ∃ k : Nat, k ≤ n ∧ i = .int .i64 k ∧ Hid (z1.take k = z2.take k) ∧ Below w.heap.size w wr) (fun i _ => n - (intOf i).toNat)
    case atStart => exact ⟨0, Nat.zero_le _, rfl, Lib.hid rfl, Below.refl _ _⟩
    case round =>
      obtain ⟨k, hk, rfl, HT, hbl⟩ := hrel
      by_cases hlt : k < n
      · obtain ⟨g1, rfl, _, hg1, q1, _⟩ := R1.out (by omega)
        obtain ⟨g2, rfl, _, hg2, q2, _⟩ := R2.out (by omega)
        have d1 := (hbl.cell (p := ⟨g1, k, none⟩) hg1).trans ((q1 k (by omega)).trans (ints_get z1 k (by rw [HN.out]; exact hlt)))
        have d2 := (hbl.cell (p := ⟨g2, k, none⟩) hg2).trans ((q2 k (by omega)).trans (ints_get z2 k (by rw [HN2.out]; exact hlt)))
        obtain ⟨x1, hx1⟩ : ∃ x, z1.getD k 0 = x := ⟨_, rfl⟩
        obtain ⟨x2, hx2⟩ : ∃ x, z2.getD k 0 = x := ⟨_, rfl⟩
        rw [hx1] at d1
        rw [hx2] at d2
        have X1 : Hid (z1.take (k + 1) = z1.take k ++ [x1]) := Lib.hid (by rw [List.take_succ_eq_append_getElem (by rw [HN.out]; exact hlt), ← hx1]; simp [List.getD, HN.out, hlt])
        have X2 : Hid (z2.take (k + 1) = z2.take k ++ [x2]) := Lib.hid (by rw [List.take_succ_eq_append_getElem (by rw [HN2.out]; exact hlt), ← hx2]; simp [List.getD, HN2.out, hlt])
        clear q1 q2 hx1 hx2
        by_cases hx : x1 = x2
        · subst hx
          go_wp2
          go_quiet (fail)
          go_wp2
          go_roundw
          case rel => exact ⟨k + 1, by omega, by go_num, Lib.hid (by rw [X1.out, X2.out, HT.out]), below_drewN hbl _⟩
          case measure => simp [intOf]; omega
        · have hxn : (x1 != x2) = true := by rw [bne_iff_ne]; exact hx
          go_wp2
          go_quiet (fail)
          go_wp2
          go_ret
          refine ⟨?_, below_drewN hbl _⟩
          have : z1 ≠ z2 := fun e => hx (by
            have h3 := X1.out
            rw [e, X2.out, ← HT.out] at h3
            exact (by simpa using h3 : x2 = x1).symm)
          simp [this]
      · obtain rfl : k = n := by omega
        go_wp2
        go_ret
        refine ⟨?_, hbl⟩
        have h3 := HT.out
        rw [List.take_of_length_le (by rw [HN.out]; exact Nat.le_refl _), List.take_of_length_le (by rw [HN2.out]; exact Nat.le_refl _)] at h3
        simp [h3]
  · have hne : ((z1.length : Int) != (z2.length : Int)) = true := by rw [bne_iff_ne]; omega
    have hz : decide (z1 = z2) = false := decide_eq_false (fun e => hl (by rw [e]))
    rw [hz]
    clear hl hz h1 h2 r1 r2
    go_enter Try.func21, Try.ntmps21
    go_wp2
    go_ret
    exact ⟨rfl, Below.refl _ _⟩
end Go.Proofs.Ytldcfgifimdmmaa

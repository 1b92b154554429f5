/-
  WALKS: one bit, a bit turned, a slice of bits; by the program and by the document's answer. The text is within the reach.
-/
import Derived.Test.YtldcfgifimdmmaaDoorMem
import Derived.Test.YtldcfgifimdmmaaDoorBits
import Derived.RegionTactic
import Derived.ChangeAlike
import Derived.BigRegion
namespace Go.Proofs.YtldcfgifimdmmaaDoor
open Go.RowKit
set_option linter.unusedVariables false

/-- What Bit answers. -/
def bitR (l : List UInt8) (i : Int) : Nat × Int := if i < 0 ∨ 8 * (l.length : Int) ≤ i then (0, 13) else ((bitB l i.toNat).toNat, 0)
/-- A text with bit i turned. -/
def flipB (l : List UInt8) (i : Nat) : List UInt8 := l.set (i / 8) (UInt8.ofNat ((l.getD (i / 8) 0).toNat ^^^ 2 ^ (7 - i % 8)))
def flipR (l : List UInt8) (i : Int) : List UInt8 × Int := if i < 0 ∨ 8 * (l.length : Int) ≤ i then ([], 13) else (flipB l i.toNat, 0)
/-- What Slice answers. -/
def sliceR (l : List UInt8) (f n : Int) : Nat × Int :=
  if n < 0 ∨ 64 < n ∨ 8 * (l.length : Int) < n ∨ f < 0 ∨ 8 * (l.length : Int) - n < f then (0, 13) else (numOf (bitsOf l f.toNat n.toNat), 0)

set_option maxHeartbeats 1000000 in
theorem Bit_calls (s : ByteArray) (hs : s.size ≤ 140737488351232) (i : Int) (w : World) :
    Calls Tryd.prog 12 #[.string s, .int .i64 i] w fun e w' => e = .returned (.tuple #[.int .i64 (bitR s.data.toList i).1, .int .i64 (bitR s.data.toList i).2]) ∧ w = w' := by
  have hlen : s.data.toList.length = s.size := rfl
  by_cases h1 : i < 0
  · have hp : bitR s.data.toList i = (0, 13) := by unfold bitR; rw [if_pos (by omega)]
    rw [hp]
    clear hp hlen
    go_enter Tryd.func12, Tryd.ntmps12
    go_wp2
    go_ret2
    exact ⟨rfl, rfl⟩
  by_cases h2 : 8 * (s.size : Int) ≤ i
  · have hp : bitR s.data.toList i = (0, 13) := by unfold bitR; rw [if_pos (by rw [hlen]; omega)]
    rw [hp]
    clear hp hlen
    go_enter Tryd.func12, Tryd.ntmps12
    go_wp2
    go_ret2
    exact ⟨rfl, rfl⟩
  have hp : bitR s.data.toList i = ((bitB s.data.toList i.toNat).toNat, 0) := by unfold bitR; rw [if_neg (by rw [hlen]; omega)]
  rw [hp]
  obtain ⟨n, rfl⟩ := Int.eq_ofNat_of_zero_le (show 0 ≤ i by omega)
  clear hp hlen
  go_enter Tryd.func12, Tryd.ntmps12
  go_wp2_with fail
  refine (bit_calls s hs n (by omega) w).mono ?_
  rintro e w1 ⟨rfl, rfl⟩
  go_wp2
  go_ret2
  exact ⟨rfl, rfl⟩

set_option maxHeartbeats 1000000 in
theorem refBit1_calls (s : ByteArray) (hs : s.size ≤ 140737488351232) (i : Nat) (h : i < 8 * s.size) (w : World) :
    Calls Tryd.prog 27 #[.string s, .int .i64 i] w fun e w' => e = .returned (.int .i64 ((bitB s.data.toList i).toNat : Int)) ∧ w = w' := by
  have hi : i / 8 < s.size := by omega
  have hc := s[i / 8].toNat_lt
  obtain ⟨q, hqd⟩ : ∃ q, s[i / 8].toNat / 2 ^ (7 - i % 8) = q := ⟨_, rfl⟩
  have hq256 : q < 256 := by rw [← hqd]; exact Nat.lt_of_le_of_lt (Nat.div_le_self _ _) (by omega)
  have hq : ((s[i / 8].toNat : Int) / 2 ^ (7 - i % 8)) = (q : Int) := by rw [← hqd]; simp
  have hand := and_one_i64 q (by omega)
  have hfin : q % 2 = (bitB s.data.toList i).toNat := by
    rw [bitB_toNat, ← hqd]
    simp [List.getD, hi]; rfl
  rw [hfin] at hand
  clear hfin hqd
  go_enter Tryd.func27, Tryd.ntmps27
  go_wp2
  go_ret
  exact ⟨rfl, rfl⟩

/-- The turned byte. -/
theorem flip_byte (d : UInt8) (j : Nat) (hj : j < 8) : bits .xor .u8 (d.toNat : Int) ((2 : Int) ^ j % 256) = ((UInt8.ofNat (d.toNat ^^^ 2 ^ j)).toNat : Int) := by
  have hdl := d.toNat_lt
  have hp2 : 2 ^ j < 256 := Nat.pow_lt_pow_right (a := 2) (n := 8) (by omega) hj
  have hx : d.toNat ^^^ 2 ^ j < 256 := Nat.xor_lt_two_pow (n := 8) (by omega) hp2
  have := u8_xor_nat d.toNat (2 ^ j) (by omega) hp2
  rw [UInt8.toNat_ofNat', Nat.mod_eq_of_lt hx, ← this]
  congr 1
  have e : ((2 ^ j : Nat) : Int) = (2 : Int) ^ j := by simp
  rw [← e]
  exact congrArg Int.ofNat (Nat.mod_eq_of_lt hp2)

set_option maxRecDepth 100000 in
set_option maxHeartbeats 2000000 in
theorem Flip_calls (s : ByteArray) (hs : s.size ≤ 140737488351232) (i : Int) (w : World) :
    Calls Tryd.prog 11 #[.string s, .int .i64 i] w fun e w' => e = .returned (.tuple #[.string ⟨(flipR s.data.toList i).1.toArray⟩, .int .i64 (flipR s.data.toList i).2]) ∧ Below w.heap.size w w' := by
  have hlen : s.data.toList.length = s.size := rfl
  by_cases h1 : i < 0
  · have hp : flipR s.data.toList i = ([], 13) := by unfold flipR; rw [if_pos (by omega)]
    rw [hp]
    clear hp hlen
    go_enter Tryd.func11, Tryd.ntmps11
    go_wp2
    go_ret2
    exact ⟨rfl, Below.refl _ _⟩
  by_cases h2 : 8 * (s.size : Int) ≤ i
  · have hp : flipR s.data.toList i = ([], 13) := by unfold flipR; rw [if_pos (by rw [hlen]; omega)]
    rw [hp]
    clear hp hlen
    go_enter Tryd.func11, Tryd.ntmps11
    go_wp2
    go_ret2
    exact ⟨rfl, Below.refl _ _⟩
  have hp : flipR s.data.toList i = (flipB s.data.toList i.toNat, 0) := by unfold flipR; rw [if_neg (by rw [hlen]; omega)]
  rw [hp]
  obtain ⟨n, rfl⟩ := Int.eq_ofNat_of_zero_le (show 0 ≤ i by omega)
  rw [Int.toNat_natCast]
  clear hp hlen
  have hn : n / 8 < s.size := by omega
  have hcv := run_bytes_of_string (P := Tryd.prog) w 9 53 5 s Tryd.underlying9 Tryd.underlying53 Tryd.underlying5
  obtain ⟨cap, hcap⟩ : ∃ cap, grownCap w s.size 0 5 = cap := ⟨_, rfl⟩
  rw [hcap] at hcv
  clear hcap
  obtain ⟨o, ho⟩ : ∃ o, Obj.cells (bytesRow s cap) 5 ((bytesRow s cap).size, (bytesRow s cap).size + 1) = o := ⟨_, rfl⟩
  rw [ho] at hcv
  have hB : Bys (w.alloc o) w.heap.size 5 s.data.toList := by rw [← ho]; exact Bys.of_string w _ s cap
  clear ho
  have hc := hB.cell (i := n / 8) hn
  have hf := hB.frozen (i := n / 8) hn
  have hx := flip_byte (s.data.toList.getD (n / 8) 0) (7 - n % 8) (by omega)
  have hP := hB.put (n / 8) (UInt8.ofNat ((s.data.toList.getD (n / 8) 0).toNat ^^^ 2 ^ (7 - n % 8)))
  have hs2 := hP.drew.drew.toStr (P := Tryd.prog) 53 9 5 Tryd.underlying53 Tryd.underlying5 Tryd.underlying9 s.size cap (by simp)
  obtain ⟨d, hd⟩ : ∃ d, s.data.toList.getD (n / 8) 0 = d := ⟨_, rfl⟩
  have hfl : s.data.toList.set (n / 8) (UInt8.ofNat (d.toNat ^^^ 2 ^ (7 - n % 8))) = flipB s.data.toList n := by rw [← hd]; rfl
  rw [hd] at hc hx hs2
  rw [hfl] at hs2
  obtain ⟨d', hd'⟩ : ∃ d', UInt8.ofNat (d.toNat ^^^ 2 ^ (7 - n % 8)) = d' := ⟨_, rfl⟩
  rw [hd'] at hx hs2
  clear hP hd hfl hd'
  go_enter Tryd.func11, Tryd.ntmps11
  go_wp2
  go_region
  all_goals go_wp2
  all_goals go_ret2
  exact ⟨rfl, (((Below.refl _ _).alloc (Nat.le_refl _) _).setCell (p := ⟨w.heap.size, n / 8, none⟩) (Nat.le_refl _) _).drew.drew⟩



end Go.Proofs.YtldcfgifimdmmaaDoor

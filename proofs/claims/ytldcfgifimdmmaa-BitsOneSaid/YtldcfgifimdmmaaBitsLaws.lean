/-
  LAWS: BitsOne, BitsSlices. The texts are within the reach.
-/
import Derived.Test.YtldcfgifimdmmaaBits2
namespace Go.Proofs.Ytldcfgifimdmmaa
open Go.RowKit
set_option linter.unusedVariables false

set_option maxHeartbeats 2000000 in
theorem BitsOne_walk (a0 : ByteArray) (s0 : a0.size ≤ 140737488351232) (a1 : Int) (w1 : (Lit.int .i64 a1).wf = true) (a2 : Int) (w2 : (Lit.int .i64 a2).wf = true) (a3 : Int) (w3 : (Lit.int .i64 a3).wf = true) (w : World) :
    Calls Try.prog 5 #[.string a0, .int .i64 a1, .int .i64 a2, .int .i64 a3] w fun e w' => e = .returned (.bool true) ∧ Below w.heap.size w w' := by
  have c1 := Bit_calls a0 s0 a1
  have c2 := RefBit_calls a0 s0 a1
  have c3 := Flip_calls a0 s0 a1
  have c4 := RefFlip_calls a0 s0 a1
  have c5 := Slice_calls a0 s0 a2 a3
  have c6 := RefSlice_calls a0 s0 a2 a3
  obtain ⟨x, hx⟩ : ∃ x, bitR a0.data.toList a1 = x := ⟨_, rfl⟩
  obtain ⟨y, hy⟩ : ∃ y, flipR a0.data.toList a1 = y := ⟨_, rfl⟩
  obtain ⟨z, hz⟩ : ∃ z, sliceR a0.data.toList a2 a3 = z := ⟨_, rfl⟩
  simp only [hx] at c1 c2
  simp only [hy] at c3 c4
  simp only [hz] at c5 c6
  obtain ⟨y0, hy0⟩ : ∃ y0, (⟨y.1.toArray⟩ : ByteArray) = y0 := ⟨_, rfl⟩
  simp only [hy0] at c3 c4
  have he : (y0.toList == y0.toList) = true := by simp
  have C1 := Lib.hid c1
  have C2 := Lib.hid c2
  have C3 := Lib.hid c3
  have C4 := Lib.hid c4
  have C5 := Lib.hid c5
  have C6 := Lib.hid c6
  clear c1 c2 c3 c4 c5 c6 hx hy hz hy0 w1 w2 w3
  go_enter Try.func5, Try.ntmps5
  go_wp2_with fail
  refine (C1.out w).mono ?_
  rintro e w1 ⟨rfl, rfl⟩
  go_wp2_with fail
  refine (C2.out w).mono ?_
  rintro e w1 ⟨rfl, rfl⟩
  go_wp2_with fail
  refine (C3.out w).mono ?_
  rintro e w1 ⟨rfl, h1⟩
  go_wp2_with fail
  refine (C4.out w1).mono ?_
  rintro e w2 ⟨rfl, h2⟩
  go_wp2_with fail
  refine (C5.out w2).mono ?_
  rintro e w3 ⟨rfl, h3⟩
  go_wp2_with fail
  refine (C6.out w3).mono ?_
  rintro e w4 ⟨rfl, rfl⟩
  have hB := h1.trans ((h2.mono h1.size).trans (h3.mono (Nat.le_trans h1.size h2.size)))
  clear C1 C2 C3 C4 C5 C6 h1 h2 h3
  go_wp2
  go_ret
  exact ⟨by simp, hB⟩

end Go.Proofs.Ytldcfgifimdmmaa

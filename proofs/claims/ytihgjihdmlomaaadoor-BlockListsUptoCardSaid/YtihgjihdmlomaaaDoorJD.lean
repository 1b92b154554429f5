/-
  WALKS: whether a number is a width; whether so many bits can be parted into so many chunks.
  WALK: the check of a code.
-/
import Derived.Test.YtihgjihdmlomaaaDoorProg
import Derived.WalkKit
import Derived.WalkLawsBesides
import Derived.Lib.Hide
import Derived.IntWalk
import Derived.Outline
namespace Go.Proofs.YtihgjihdmlomaaaDoor
open Go.RowKit
set_option linter.unusedVariables false

/-- Is w a width? -/
def widthB (w : Int) : Bool := decide (64 ≤ w ∧ w ≤ 1024 ∧ w % 64 = 0)
set_option maxHeartbeats 1000000 in
theorem isWidth_calls (a : Int) (w : World) :
    Calls Tryd.prog 78 #[.int .i64 a] w fun e w' => e = .returned (.bool (widthB a)) ∧ w = w' := by
  by_cases h1 : a < 64
  · have hp : widthB a = false := by unfold widthB; simp; omega
    rw [hp]
    clear hp
    go_enter Tryd.func78, Tryd.ntmps78
    go_wp2
    go_ret
    exact ⟨rfl, rfl⟩
  by_cases h2 : 1024 < a
  · have hp : widthB a = false := by unfold widthB; simp; omega
    rw [hp]
    clear hp
    go_enter Tryd.func78, Tryd.ntmps78
    go_wp2
    go_ret
    exact ⟨rfl, rfl⟩
  obtain ⟨n, rfl⟩ := Int.eq_ofNat_of_zero_le (show 0 ≤ a by omega)
  by_cases h3 : n % 64 = 0
  · have hp : widthB n = true := by unfold widthB; simp; omega
    have hz : ((n : Int) % 64 == 0) = true := by simp; omega
    rw [hp]
    clear hp h3
    go_enter Tryd.func78, Tryd.ntmps78
    go_wp2
    go_ret
    exact ⟨by simp, rfl⟩
  · have hp : widthB n = false := by unfold widthB; simp; omega
    have hz : ((n : Int) % 64 == 0) = false := by simp; omega
    rw [hp]
    clear hp h3
    go_enter Tryd.func78, Tryd.ntmps78
    go_wp2
    go_ret
    exact ⟨by simp, rfl⟩

set_option maxHeartbeats 1000000 in
theorem RefWidth_calls (a : Int) (w : World) :
    Calls Tryd.prog 62 #[.int .i64 a] w fun e w' => e = .returned (.bool (widthB a)) ∧ w = w' := by
  by_cases h1 : a < 64
  · have hp : widthB a = false := by unfold widthB; simp; omega
    rw [hp]
    clear hp
    go_enter Tryd.func62, Tryd.ntmps62
    go_wp2
    go_ret
    exact ⟨rfl, rfl⟩
  by_cases h2 : 1024 < a
  · have hp : widthB a = false := by unfold widthB; simp; omega
    rw [hp]
    clear hp
    go_enter Tryd.func62, Tryd.ntmps62
    go_wp2
    go_ret
    exact ⟨rfl, rfl⟩
  obtain ⟨n, rfl⟩ := Int.eq_ofNat_of_zero_le (show 0 ≤ a by omega)
  by_cases h3 : n % 64 = 0
  · have hp : widthB n = true := by unfold widthB; simp; omega
    have hz : ((n : Int) % 64 == 0) = true := by simp; omega
    rw [hp]
    clear hp h3
    go_enter Tryd.func62, Tryd.ntmps62
    go_wp2
    go_ret
    exact ⟨by simp, rfl⟩
  · have hp : widthB n = false := by unfold widthB; simp; omega
    have hz : ((n : Int) % 64 == 0) = false := by simp; omega
    rw [hp]
    clear hp h3
    go_enter Tryd.func62, Tryd.ntmps62
    go_wp2
    go_ret
    exact ⟨by simp, rfl⟩

theorem widthB_true {a : Int} (h : widthB a = true) : ∃ n : Nat, a = n ∧ 64 ≤ n ∧ n ≤ 1024 ∧ n % 64 = 0 := by
  unfold widthB at h
  simp at h
  exact ⟨a.toNat, by omega, by omega, by omega, by omega⟩

/-- What chunked answers. -/
def chunkedR (a b : Int) : Int := if widthB a then (if b < (a + 31) / 32 ∨ a / 8 < b then 12 else 0) else 10

theorem chunkedR_zero {a b : Int} (h : chunkedR a b = 0) : ∃ w0 m0 : Nat, a = w0 ∧ b = m0 ∧ 64 ≤ w0 ∧ w0 ≤ 1024 ∧ w0 % 64 = 0 ∧ (w0 + 31) / 32 ≤ m0 ∧ m0 ≤ w0 / 8 := by
  unfold chunkedR at h
  split at h
  · rename_i hw
    obtain ⟨n, rfl, h1, h2, h3⟩ := widthB_true hw
    split at h
    · omega
    · exact ⟨n, b.toNat, rfl, by omega, h1, h2, h3, by omega, by omega⟩
  · omega
end Go.Proofs.YtihgjihdmlomaaaDoor

namespace Go.Proofs.YtihgjihdmlomaaaDoor
open Go.RowKit
set_option linter.unusedVariables false

/-- What Check answers. -/
def checkR (w : Int) (n : Nat) : Int := if widthB w then (if (n : Int) = w / 8 then 0 else 11) else 10

set_option maxHeartbeats 1000000 in
theorem Check_calls (a : Int) (s : ByteArray) (hs : s.size ≤ 140737488351232) (w : World) :
    Calls Tryd.prog 55 #[.int .i64 a, .string s] w fun e w' => e = .returned (.int .i64 (checkR a s.size)) ∧ w = w' := by
  have C := isWidth_calls a w
  rcases hw : widthB a with _ | _
  · have hp : checkR a s.size = 10 := by unfold checkR; rw [hw]; rfl
    rw [hp]
    rw [hw] at C
    clear hp hw
    go_enter Tryd.func55, Tryd.ntmps55
    go_wp2_with fail
    refine C.mono ?_
    rintro e w1 ⟨rfl, rfl⟩
    go_wp2
    go_ret
    exact ⟨rfl, rfl⟩
  · rw [hw] at C
    obtain ⟨n, rfl, h1, h2, h3⟩ := widthB_true hw
    by_cases he : s.size = n / 8
    · have hp : checkR n s.size = 0 := by unfold checkR; rw [hw, if_pos rfl, if_pos (by omega)]
      have hne : ((s.size : Int) != (n : Int) / 8) = false := by rw [bne_eq_false_iff_eq]; omega
      rw [hp]
      clear hp he hw
      go_enter Tryd.func55, Tryd.ntmps55
      go_wp2_with fail
      refine C.mono ?_
      rintro e w1 ⟨rfl, rfl⟩
      go_wp2
      go_ret
      exact ⟨rfl, rfl⟩
    · have hp : checkR n s.size = 11 := by unfold checkR; rw [hw, if_pos rfl, if_neg (by omega)]
      have hne : ((s.size : Int) != (n : Int) / 8) = true := by rw [bne_iff_ne]; omega
      rw [hp]
      clear hp he hw
      go_enter Tryd.func55, Tryd.ntmps55
      go_wp2_with fail
      refine C.mono ?_
      rintro e w1 ⟨rfl, rfl⟩
      go_wp2
      go_ret
      exact ⟨rfl, rfl⟩
end Go.Proofs.YtihgjihdmlomaaaDoor

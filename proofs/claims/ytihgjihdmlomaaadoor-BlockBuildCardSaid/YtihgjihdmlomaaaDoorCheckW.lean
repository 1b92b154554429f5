/-
  WALK: the check of a code.
-/
import Derived.Test.YtihgjihdmlomaaaDoorWidth
namespace Go.Proofs.YtihgjihdmlomaaaDoor
open Go.RowKit
set_option linter.unusedVariables false

/-- What Check answers. -/
def checkR (w : Int) (n : Nat) : Int := if widthB w then (if (n : Int) = w / 8 then 0 else 11) else 10

set_option maxHeartbeats 1000000 in
theorem Check_calls (a : Int) (s : ByteArray) (hs : s.size ≤ 140737488351232) (w : World) :
    Calls Tryd.prog 55 #[.int .i64 a, .string s] w fun e w' => e = .returned (.int .i64 (checkR a s.size)) ∧ w = w' := by
  have C := isWidth_calls a w
  rcases hw : widthB a with _ | _
  · have hp : checkR a s.size = 10 := by unfold checkR; rw [hw]; rfl
    rw [hp]
    rw [hw] at C
    clear hp hw
    go_enter Tryd.func55, Tryd.ntmps55
    go_wp2_with fail
    refine C.mono ?_
    rintro e w1 ⟨rfl, rfl⟩
    go_wp2
    go_ret
    exact ⟨rfl, rfl⟩
  · rw [hw] at C
    obtain ⟨n, rfl, h1, h2, h3⟩ := widthB_true hw
    by_cases he : s.size = n / 8
    · have hp : checkR n s.size = 0 := by unfold checkR; rw [hw, if_pos rfl, if_pos (by omega)]
      have hne : ((s.size : Int) != (n : Int) / 8) = false := by rw [bne_eq_false_iff_eq]; omega
      rw [hp]
      clear hp he hw
      go_enter Tryd.func55, Tryd.ntmps55
      go_wp2_with fail
      refine C.mono ?_
      rintro e w1 ⟨rfl, rfl⟩
      go_wp2
      go_ret
      exact ⟨rfl, rfl⟩
    · have hp : checkR n s.size = 11 := by unfold checkR; rw [hw, if_pos rfl, if_neg (by omega)]
      have hne : ((s.size : Int) != (n : Int) / 8) = true := by rw [bne_iff_ne]; omega
      rw [hp]
      clear hp he hw
      go_enter Tryd.func55, Tryd.ntmps55
      go_wp2_with fail
      refine C.mono ?_
      rintro e w1 ⟨rfl, rfl⟩
      go_wp2
      go_ret
      exact ⟨rfl, rfl⟩
end Go.Proofs.YtihgjihdmlomaaaDoor

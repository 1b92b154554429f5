/-
  THE WALK of the law on frames that are made.
-/
import Derived.Test.YtebbmifpidbdlaaDoorFrame
namespace Go.Proofs.YtebbmifpidbdlaaDoor
open Go.RowKit
set_option linter.unusedVariables false

theorem SealFrame_walk (a0 : Int) (w0 : (Lit.int .i64 a0).wf = true) (a1 : ByteArray) (s1 : a1.size ≤ 140737488351232) (w : World) (hL : TabLaid w) :
    Calls Tryd.prog 4 #[.int .i64 a0, .string a1] w fun e w' => e = .returned (.bool true) ∧ Below w.heap.size w w' := by
  have hT := tab_of_laid hL
  clear hL w0
  go_enter Tryd.func4, Tryd.ntmps4
  go_wp2_with fail
  refine (Frame_calls a0 a1 s1 w hT).mono ?_
  rintro e u1 ⟨rfl, hb1⟩
  go_wp2_with fail
  refine (RefFrame_calls a0 a1 s1 u1).mono ?_
  rintro e u2 ⟨rfl, hb2⟩
  have hbl := hb1.trans (hb2.mono hb1.size)
  clear hb1 hb2
  generalize frameR a0 a1.data.toList = q
  go_wp2
  go_ret
  exact ⟨by simp, hbl⟩
end Go.Proofs.YtebbmifpidbdlaaDoor

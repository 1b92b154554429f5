/-
  WALKS: the document's Tell: parts.
-/
import Derived.Test.YtabhjkaheghbhaaSame
import Derived.Test.YtabhjkaheghbhaaAskR
import Derived.OwnWalk
namespace Go.Proofs.Ytabhjkaheghbhaa
open Go.RowKit
set_option linter.unusedVariables false

set_option maxRecDepth 100000 in
theorem ordered_calls (x y : Hv) (w : World) :
    Calls Try.prog 87 #[.agg #[.int .i64 x.d, .int .i64 x.i, .string x.c], .agg #[.int .i64 y.d, .int .i64 y.i, .string y.c]] w fun e w' => e = .returned (.bool (behB x y)) ∧ Below w.heap.size w w' := by
  have HB := Lib.hid (((Below.refl w.heap.size w).alloc (Nat.le_refl _) (.cells #[.int .i64 x.d, .int .i64 x.i, .string x.c] 35)).alloc (by simp) (.cells #[.int .i64 y.d, .int .i64 y.i, .string y.c] 35))
  unfold behB
  by_cases h1 : x.d < y.d
  · have d1 : decide (x.d < y.d) = true := by simpa using h1
    rw [d1, Bool.true_or]
    go_enter Try.func87, Try.ntmps87
    go_wp2
    go_ret
    exact ⟨rfl, HB.out⟩
  · have d1 : decide (x.d < y.d) = false := by simpa using h1
    rw [d1, Bool.false_or]
    by_cases h2 : y.d = x.d
    · have d2 : (y.d == x.d) = true := by rw [beq_iff_eq]; exact h2
      have d2' : (x.d == y.d) = true := by rw [beq_iff_eq]; exact h2.symm
      rw [d2', Bool.true_and]
      generalize d3 : decide (x.i < y.i) = b3
      clear h1 h2 d2'
      go_enter Try.func87, Try.ntmps87
      go_wp2
      go_ret
      exact ⟨rfl, HB.out⟩
    · have d2 : (y.d == x.d) = false := by rw [beq_eq_false_iff_ne]; exact h2
      have d2' : (x.d == y.d) = false := by rw [beq_eq_false_iff_ne]; exact fun h => h2 h.symm
      rw [d2', Bool.false_and]
      clear h1 h2 d2'
      go_enter Try.func87, Try.ntmps87
      go_wp2
      go_ret
      exact ⟨rfl, HB.out⟩
def tls (op : Int) : Bool × Bool × Bool := (op == 3, op == 6 || op == 8, op == 4 || op == 5)
set_option maxRecDepth 100000 in
theorem tells_calls (op : Int) (w : World) : Calls Try.prog 39 #[.int .i64 op] w fun x w' => x = .returned (.tuple #[.bool (tls op).1, .bool (tls op).2.1, .bool (tls op).2.2]) ∧ w' = w := by
  unfold tls
  by_cases h6 : op = 6
  · subst h6
    go_enter Try.func39, Try.ntmps39
    go_wp2
    refine bodyPost_ret (results_tmp3 rfl _ _ _) rfl ?_
    exact ⟨rfl, rfl⟩
  · have e6 : (op == 6) = false := by rw [beq_eq_false_iff_ne]; exact h6
    by_cases h4 : op = 4
    · subst h4
      go_enter Try.func39, Try.ntmps39
      go_wp2
      refine bodyPost_ret (results_tmp3 rfl _ _ _) rfl ?_
      exact ⟨rfl, rfl⟩
    · have e4 : (op == 4) = false := by rw [beq_eq_false_iff_ne]; exact h4
      clear h6 h4
      generalize e3 : (op == 3) = b3
      generalize e5 : (op == 5) = b5
      generalize e8 : (op == 8) = b8
      simp only [e6, e4, Bool.false_or]
      go_enter Try.func39, Try.ntmps39
      go_wp2
      refine bodyPost_ret (results_tmp3 rfl _ _ _) rfl ?_
      exact ⟨rfl, rfl⟩
theorem hitE_stay (o : Bool) (x : Hv) (e : Int) (h : e ≠ 0) : hitE o x e = e := by simp [hitE, rf, h]
theorem hitsE_stay (z : List Hv) (k : Nat) (e : Int) (he : e ≠ 0) (h : hitsE z k 0 = e) : ∀ j, hitsE z (k + j) 0 = e
  | 0 => h
  | j + 1 => by
    have ih := hitsE_stay z k e he h j
    rw [← Nat.add_assoc]
    simp only [hitsE, ih]
    split
    · exact hitE_stay _ _ _ he
    · rfl
end Go.Proofs.Ytabhjkaheghbhaa

/-
  WALK: the program's Tell.
-/
import Derived.Test.YtabhjkaheghbhaaTellX
namespace Go.Proofs.Ytabhjkaheghbhaa
open Go.RowKit
set_option linter.unusedVariables false

def kdOf (op : Int) : Nat := if op = 3 then 3 else if op = 4 ∨ op = 5 then 4 else if op = 6 ∨ op = 8 then 6 else 1
/-- What Tell answers. -/
def tellOut (op code n : Int) (t : ByteArray) (z : List Hv) : List UInt8 × Int :=
  if ¬ (1 ≤ op ∧ op ≤ 9) then ([], 35) else if code < 0 ∨ 999 < code then ([], 13) else tellO (kdOf op) op code n t z
set_option maxRecDepth 100000 in
theorem tell_none (op : Int) (hop : ¬ (1 ≤ op ∧ op ≤ 9)) (code n : Int) (t : ByteArray) (p : Option Addr) (m cap : Nat) (w : World) :
    Calls Try.prog 13 #[.int .i64 op, .agg #[.int .i64 code, .int .i64 n, .string t, .slice p m cap]] w fun x w' => x = .returned (.tuple #[.string ⟨#[]⟩, .int .i64 35]) ∧ Below w.heap.size w w' := by
  have K := Lib.hid (fun W => known_calls op W)
  have hkn : decide (1 ≤ op ∧ op ≤ 9) = false := by simpa using hop
  rw [hkn] at K
  have HBq := Lib.hid ((Below.refl w.heap.size w).alloc (Nat.le_refl _) (.cells #[.int .i64 code, .int .i64 n, .string t, .slice p m cap] 33))
  go_enter Try.func13, Try.ntmps13
  go_wp2_with fail
  refine (K.out _).mono ?_
  rintro x y ⟨rfl, rfl⟩
  go_wp2
  go_ret2
  exact ⟨rfl, HBq.out⟩
set_option maxRecDepth 100000 in
theorem tell_range (op : Int) (hop : 1 ≤ op ∧ op ≤ 9) (code n : Int) (hco : code < 0 ∨ 999 < code) (t : ByteArray) (p : Option Addr) (m cap : Nat) (w : World) :
    Calls Try.prog 13 #[.int .i64 op, .agg #[.int .i64 code, .int .i64 n, .string t, .slice p m cap]] w fun x w' => x = .returned (.tuple #[.string ⟨#[]⟩, .int .i64 13]) ∧ Below w.heap.size w w' := by
  have K := Lib.hid (fun W => known_calls op W)
  have hkn : decide (1 ≤ op ∧ op ≤ 9) = true := by simpa using hop
  rw [hkn] at K
  have HBq := Lib.hid ((Below.refl w.heap.size w).alloc (Nat.le_refl _) (.cells #[.int .i64 code, .int .i64 n, .string t, .slice p m cap] 33))
  by_cases h1 : code < 0
  · have d1 : decide (code < 0) = true := by simpa using h1
    go_enter Try.func13, Try.ntmps13
    go_wp2_with fail
    refine (K.out _).mono ?_
    rintro x y ⟨rfl, rfl⟩
    go_wp2
    go_ret2
    exact ⟨rfl, HBq.out⟩
  · have d1 : decide (code < 0) = false := by simpa using h1
    have d2 : decide (999 < code) = true := by simp; omega
    clear hco h1
    go_enter Try.func13, Try.ntmps13
    go_wp2_with fail
    refine (K.out _).mono ?_
    rintro x y ⟨rfl, rfl⟩
    go_wp2
    go_ret2
    exact ⟨rfl, HBq.out⟩
theorem Tell_calls (op code n : Int) (t : ByteArray) (p : Option Addr) (cap : Nat) (z : List Hv) (w : World) (hz : HR w w.heap.size p z) (hlen : t.size + (hitsB z).length + 128 ≤ 140737488355328) :
    Calls Try.prog 13 #[.int .i64 op, .agg #[.int .i64 code, .int .i64 n, .string t, .slice p z.length cap]] w fun x w' => x = .returned (.tuple #[.string ⟨(tellOut op code n t z).1.toArray⟩, .int .i64 (tellOut op code n t z).2]) ∧ Below w.heap.size w w' := by
  unfold tellOut
  by_cases hop : 1 ≤ op ∧ op ≤ 9
  · rw [if_neg (fun h => h hop)]
    by_cases hco : code < 0 ∨ 999 < code
    · rw [if_pos hco]
      exact tell_range op hop code n hco t p z.length cap w
    · rw [if_neg hco]
      have hco2 : 0 ≤ code ∧ code ≤ 999 := by omega
      have hc9 : op = 1 ∨ op = 2 ∨ op = 3 ∨ op = 4 ∨ op = 5 ∨ op = 6 ∨ op = 7 ∨ op = 8 ∨ op = 9 := by omega
      rcases hc9 with rfl | rfl | rfl | rfl | rfl | rfl | rfl | rfl | rfl
      · exact tell_1 1 hop _ _ _ _ opsAt1 code n hco2 t p cap z w hz hlen
      · exact tell_1 2 hop _ _ _ _ opsAt2 code n hco2 t p cap z w hz hlen
      · exact tell_3 3 hop _ _ _ _ opsAt3 code n hco2 t p cap z w hz hlen
      · exact tell_4 4 hop _ _ _ _ opsAt4 code n hco2 t p cap z w hz hlen
      · exact tell_4 5 hop _ _ _ _ opsAt5 code n hco2 t p cap z w hz hlen
      · exact tell_6 6 hop _ _ _ _ opsAt6 code n hco2 t p cap z w hz hlen
      · exact tell_1 7 hop _ _ _ _ opsAt7 code n hco2 t p cap z w hz hlen
      · exact tell_6 8 hop _ _ _ _ opsAt8 code n hco2 t p cap z w hz hlen
      · exact tell_1 9 hop _ _ _ _ opsAt9 code n hco2 t p cap z w hz hlen
  · rw [if_pos hop]
    exact tell_none op hop code n t p z.length cap w
end Go.Proofs.Ytabhjkaheghbhaa

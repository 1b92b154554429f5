/-
  WALK: samePairs: two lists of pairs held against each other.
-/
import Derived.Test.YtmfanldekjkbiaaDoorPairsP
import Derived.Laws.StructEq
namespace Go.Proofs.YtmfanldekjkbiaaDoor
open Go.RowKit
set_option linter.unusedVariables false

theorem neq_pair (x : Pv) (W : World) : (binOp .neq 49 (.agg #[.int .i64 x.i, .string x.c]) (.agg #[.int .i64 x.i, .string x.c])).run Tryd.prog W = .ok (.bool false) W := by
  have hFo : Tryd.prog.underlying 49 = some (.struct (Tryd.prog.fieldsOf 49)) := by kernel_rfl
  have hSt : Tryd.prog.stoodInHeld 49 = false := by kernel_rfl
  rw [run_neq_struct, run_equalIn_agg W _ _ _ _ hFo hSt]
  simp only [Program.fieldsOf, Tryd.underlying49]
  simp [Op.eqFields, part, run_equalIn_int, run_equalIn_string, Tryd.underlying3, Tryd.underlying9]

theorem PL.gr {w w' : World} {p : Option Addr} {z : List Pv} (h : PL w p z) (hg : Gr w w') : PL w' p z := h.below hg.below

set_option maxRecDepth 100000 in
set_option maxHeartbeats 1000000 in
theorem sameP_calls (p1 p2 : Option Addr) (c1 c2 : Nat) (z : List Pv) (n : Nat) (hn : z.length = n) (hzl : n ≤ 4611686018427387904) (w : World) (h1 : PL w p1 z) (h2 : PL w p2 z) :
    Calls Tryd.prog 23 #[.slice p1 n c1, .slice p2 n c2] w fun x w' => x = .returned (.bool true) ∧ Gr w w' := by
  have hNE := neq_pair
  have hQ1 : Tryd.prog.eqGuardType Tryd.prog.depth 49 = false := by kernel_rfl
  have HN := Lib.hid hn
  have H1 := Lib.hid h1
  have H2 := Lib.hid h2
  clear h1 h2 hn
  go_enter Tryd.func23, Tryd.ntmps23
  go_wp2
  go_loopw [5] (fun i ws => ∃ k : Nat, k ≤ n ∧ i = .int .i64 k ∧ Gr w ws) (fun i _ => n - (intOf i).toNat)
  case atStart => exact ⟨0, Nat.zero_le _, rfl, Gr.refl _⟩
  case round =>
    obtain ⟨k, hk, rfl, HB⟩ := hrel
    by_cases hlt : k < n
    · have hd : decide ((k : Int) < (n : Int)) = true := by simpa using hlt
      obtain ⟨x, hx⟩ : ∃ x, z[k]? = some x := ⟨_, List.getElem?_eq_getElem (by rw [HN.out]; exact hlt)⟩
      obtain ⟨a1, rfl, u0, u1⟩ := (H1.out.gr HB) k x hx
      obtain ⟨a2, rfl, v0, v1⟩ := (H2.out.gr HB) k x hx
      have hx1 := hNE x
      have hki : (k : Int) < (n : Int) := by omega
      have hk0 : (0 : Int) ≤ (k : Int) := by omega
      clear hNE hx
      go_wp2
      go_quiet (fail)
      have HB2 := HB.drewN nq
      go_wp2
      go_roundw
      case rel => exact ⟨k + 1, by omega, by go_num, HB2⟩
      case measure => simp [intOf]; omega
    · obtain rfl : k = n := by omega
      have hd : decide ((k : Int) < (k : Int)) = false := by simp
      go_wp2
      go_ret
      exact ⟨rfl, HB⟩
end Go.Proofs.YtmfanldekjkbiaaDoor

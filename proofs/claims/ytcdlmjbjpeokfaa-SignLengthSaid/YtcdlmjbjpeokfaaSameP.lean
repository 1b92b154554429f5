/-
  WALK: same of the law, at lists of parts that are alike.
-/
import Derived.Test.YtcdlmjbjpeokfaaSumsW
import Derived.Laws.StructEq
namespace Go.Proofs.Ytcdlmjbjpeokfaa
open Go.RowKit
set_option linter.unusedVariables false
theorem neq_part (x : Int × Int) (W : World) : (binOp .neq 33 (.agg #[.int .i64 x.1, .int .i64 x.2]) (.agg #[.int .i64 x.1, .int .i64 x.2])).run Try.prog W = .ok (.bool false) W := by
  have hFo : Try.prog.underlying 33 = some (.struct (Try.prog.fieldsOf 33)) := by kernel_rfl
  have hSt : Try.prog.stoodInHeld 33 = false := by kernel_rfl
  rw [run_neq_struct, run_equalIn_agg W _ _ _ _ hFo hSt]
  simp only [Program.fieldsOf, Try.underlying33]
  simp [Op.eqFields, part, run_equalIn_int, Try.underlying3]
set_option maxRecDepth 100000 in
set_option maxHeartbeats 1000000 in
theorem samePL_calls (p1 p2 : Option Addr) (c1 c2 : Nat) (z : List (Int × Int)) (hzl : z.length ≤ 4611686018427387904) (w : World) (h1 : PL w p1 z) (h2 : PL w p2 z) :
    Calls Try.prog 13 #[.slice p1 z.length c1, .slice p2 z.length c2] w fun x w' => x = .returned (.bool true) ∧ ∃ m, w' = w.drewN m := by
  have hNE := fun (x : Int × Int) W => neq_part x W
  have hQ1 : Try.prog.eqGuardType Try.prog.depth 33 = false := by kernel_rfl
  obtain ⟨n, hnn⟩ : ∃ n, z.length = n := ⟨_, rfl⟩
  rw [hnn] at hzl ⊢
  have HN := Lib.hid hnn
  have H1 := Lib.hid h1
  have H2 := Lib.hid h2
  clear h1 h2 hnn
  go_enter Try.func13, Try.ntmps13
  go_wp2
  go_loopw [5] (fun i ws => ∃ k : Nat, k ≤ n ∧ i = .int .i64 k ∧ Hid (∃ m, ws = w.drewN m)) (fun i _ => n - (intOf i).toNat)
  case atStart => exact ⟨0, Nat.zero_le _, rfl, Lib.hid ⟨0, rfl⟩⟩
  case round =>
    obtain ⟨k, hk, rfl, HD⟩ := hrel
    have HB : Below w.heap.size w wr := by obtain ⟨m, hm⟩ := HD.out; rw [hm]; exact below_drewN (Below.refl _ _) m
    by_cases hlt : k < n
    · have hd : decide ((k : Int) < (n : Int)) = true := by simpa using hlt
      obtain ⟨x, hx⟩ : ∃ x, z[k]? = some x := ⟨_, List.getElem?_eq_getElem (by rw [HN.out]; exact hlt)⟩
      obtain ⟨a1, rfl, u0, u1⟩ := (H1.out.below HB) k x hx
      obtain ⟨a2, rfl, v0, v1⟩ := (H2.out.below HB) k x hx
      have hx1 := hNE x
      have hki : (k : Int) < (n : Int) := by omega
      have hk0 : (0 : Int) ≤ (k : Int) := by omega
      have hxs : ∀ i : List (Int × Int), i = i := fun _ => rfl
      have hw1 : IntKind.i64.wrap ((k : Int) + 1) = ((k + 1 : Nat) : Int) := by rw [IntKind.wrap_i64]; omega
      clear hNE hx hxs HB
      go_wp2
      go_quiet (fail)
      have HD2 : Hid (∃ m, wr.drewN nq = w.drewN m) := Lib.hid (by obtain ⟨m, hm⟩ := HD.out; exact ⟨m + nq, by rw [hm, World.drewN_drewN]⟩)
      go_wp2
      go_roundw
      case rel => exact ⟨k + 1, by omega, by go_num, HD2⟩
      case measure => simp [intOf]; omega
    · obtain rfl : k = n := by omega
      clear HB
      have hd : decide ((k : Int) < (k : Int)) = false := by simp
      go_wp2
      go_ret
      exact ⟨rfl, HD.out⟩
end Go.Proofs.Ytcdlmjbjpeokfaa

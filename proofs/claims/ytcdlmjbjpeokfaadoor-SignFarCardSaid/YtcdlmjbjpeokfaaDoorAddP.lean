/-
  WALKS: the helpers of the plain laws of Sign.
-/
import Derived.Test.YtcdlmjbjpeokfaaDoorSsA
import Derived.RegionTactic
namespace Go.Proofs.YtcdlmjbjpeokfaaDoor
open Go.RowKit ArgK
set_option linter.unusedVariables false

/-- An answer that is a readable list. -/
def LPost (w : World) (L : List (Int × Int)) (e : Ending) (w' : World) : Prop := ∃ p cap, e = .returned (.slice p L.length cap) ∧ PL w' p L ∧ Below w.heap.size w w'

theorem LPost.of {w w' : World} {v : Value} {L : List (Int × Int)} {m : Nat} (hm : L.length = m) (h : w'.ownsRow w.heap.size 36 2 v m (encP L)) (hb : Below w.heap.size w w') : LPost w L (.returned v) w' := by
  obtain ⟨p, c, rfl, _, _, _⟩ := own_rd h
  subst hm
  exact ⟨p, c, rfl, PL.of_own h, hb⟩

/-- A number of at most so much. -/
def fitR (n most : Int) : Int := n.tmod (most + 1)

theorem fitR_bound (n most : Int) (h : 0 ≤ most) : -most ≤ fitR n most ∧ fitR n most ≤ most := by
  have h1 : (fitR n most).natAbs = n.natAbs % (most + 1).natAbs := Int.natAbs_tmod _ _
  have h2 : n.natAbs % (most + 1).natAbs < (most + 1).natAbs := Nat.mod_lt _ (by omega)
  omega

theorem fitR_zero (most : Int) : fitR 0 most = 0 := by simp [fitR]

theorem fit_calls (n most : Int) (h : 0 ≤ most ∧ most ≤ 1048576) (w : World) : Calls Tryd.prog 11 #[.int .i64 n, .int .i64 most] w fun e w' => e = .returned (.int .i64 (fitR n most)) ∧ w = w' := by
  have h1 : IntKind.i64.wrap (most + 1) = most + 1 := by rw [IntKind.wrap_i64]; omega
  have h0 : most + 1 ≠ 0 := by omega
  have hb := fitR_bound n most h.1
  have h2 : IntKind.i64.wrap (fitR n most) = fitR n most := by rw [IntKind.wrap_i64]; omega
  have h2' : wrap64 (fitR n most) = fitR n most := by unfold wrap64; omega
  have h3 : (most + 1 == 0) = false := by rw [beq_eq_false_iff_ne]; exact h0
  unfold fitR at h2 h2' ⊢
  clear hb
  go_enter Tryd.func11, Tryd.ntmps11
  go_wp2
  go_ret
  exact ⟨rfl, rfl⟩

/-- How many parts. -/
def sizeN (n : Nat) : Nat := if n = 0 then 1 else if 40 < n then 40 else n

theorem sizeN_range (n : Nat) : 1 ≤ sizeN n ∧ sizeN n ≤ 40 := by unfold sizeN; split <;> (try split) <;> omega

theorem size_calls (p : Option Addr) (n cap : Nat) (hn : n ≤ 140737488351232) (w : World) : Calls Tryd.prog 6 #[.slice p n cap] w fun e w' => e = .returned (.int .i64 (sizeN n)) ∧ w = w' := by
  unfold sizeN
  by_cases h0 : n = 0
  · subst h0
    rw [if_pos rfl]
    go_enter Tryd.func6, Tryd.ntmps6
    go_wp2
    go_ret
    exact ⟨rfl, rfl⟩
  · rw [if_neg h0]
    have d0 : ((n : Int) == 0) = false := by rw [beq_eq_false_iff_ne]; omega
    by_cases h1 : 40 < n
    · rw [if_pos h1]
      have h1i : (40 : Int) < (n : Int) := by omega
      go_enter Tryd.func6, Tryd.ntmps6
      go_wp2
      go_ret
      exact ⟨rfl, rfl⟩
    · rw [if_neg h1]
      have h1i : ¬ (40 : Int) < (n : Int) := by omega
      go_enter Tryd.func6, Tryd.ntmps6
      go_wp2
      go_ret
      exact ⟨rfl, rfl⟩

/-- A width that goes. -/
def widthR (a : Int) : Int := if widthB a then a else 64

theorem widthR_is (a : Int) : ∃ h : Nat, widthR a = ((2 * h : Nat) : Int) ∧ 32 ≤ h ∧ h ≤ 512 ∧ h % 32 = 0 := by
  unfold widthR
  rcases hw : widthB a with _ | _
  · exact ⟨32, rfl, by decide, by decide, by decide⟩
  · obtain ⟨n, rfl, h1, h2, h3⟩ := widthB_true hw
    exact ⟨n / 2, by simp only [if_true]; omega, by omega, by omega, by omega⟩

theorem widthR_goes (a dm : Int) (hd : 1 ≤ dm ∧ dm ≤ 1024) : newE (widthR a) dm = 0 := by
  obtain ⟨h, e, h1, h2, h3⟩ := widthR_is a
  rw [e]
  have : widthB ((2 * h : Nat) : Int) = true := by unfold widthB; simp; omega
  unfold newE
  rw [if_pos this, if_pos hd]

theorem width_calls (a : Int) (w : World) : Calls Tryd.prog 4 #[.int .i64 a] w fun e w' => e = .returned (.int .i64 (widthR a)) ∧ w = w' := by
  by_cases h1 : a < 64
  · have hp : widthR a = 64 := by unfold widthR widthB; rw [if_neg]; simp; omega
    rw [hp]
    clear hp
    go_enter Tryd.func4, Tryd.ntmps4
    go_wp2
    go_ret
    exact ⟨rfl, rfl⟩
  by_cases h2 : 1024 < a
  · have hp : widthR a = 64 := by unfold widthR widthB; rw [if_neg]; simp; omega
    rw [hp]
    clear hp
    go_enter Tryd.func4, Tryd.ntmps4
    go_wp2
    go_ret
    exact ⟨rfl, rfl⟩
  obtain ⟨n, rfl⟩ : ∃ n : Nat, a = n := ⟨a.toNat, by omega⟩
  have hm : (n : Int).tmod 64 = (n : Int) % 64 := Int.tmod_eq_emod_of_nonneg (by omega)
  have hw64 : wrap64 ((n : Int) % 64) = (n : Int) % 64 := by unfold wrap64; omega
  by_cases h3 : (n : Int) % 64 = 0
  · have hp : widthR (n : Int) = n := by unfold widthR widthB; rw [if_pos]; simp; omega
    rw [hp]
    clear hp
    have hd : ((n : Int) % 64 != 0) = false := by rw [bne_eq_false_iff_eq]; exact h3
    go_enter Tryd.func4, Tryd.ntmps4
    go_wp2
    go_ret
    exact ⟨rfl, rfl⟩
  · have hp : widthR (n : Int) = 64 := by unfold widthR widthB; rw [if_neg]; simp; omega
    rw [hp]
    clear hp
    have hd : ((n : Int) % 64 != 0) = true := by rw [bne_iff_ne]; exact h3
    go_enter Tryd.func4, Tryd.ntmps4
    go_wp2
    go_ret
    exact ⟨rfl, rfl⟩
end Go.Proofs.YtcdlmjbjpeokfaaDoor

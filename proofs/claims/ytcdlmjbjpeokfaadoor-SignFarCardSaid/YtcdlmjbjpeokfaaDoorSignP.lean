/-
  WALKS: parts of a signer.
-/
import Derived.Test.YtcdlmjbjpeokfaaDoorKeepS
import Derived.Test.YtcdlmjbjpeokfaaDoorIeee2
import Derived.Laws.Closers25b
namespace Go.Proofs.YtcdlmjbjpeokfaaDoor
open Go.RowKit
set_option linter.unusedVariables false

/-- A signer's box. -/
def Sg (w : World) (T : TypeId) (b : Nat) (wd dm sd : Int) : Prop := w.heap[b]? = some (.cells #[.int .i64 wd, .int .i64 dm, .int .u64 sd] T (0, 0))

theorem Sg.cells {w : World} {T : TypeId} {b : Nat} {wd dm sd : Int} (h : Sg w T b wd dm sd) : w.cell? ⟨b, 0, none⟩ = some (.int .i64 wd) ∧ w.cell? ⟨b, 1, none⟩ = some (.int .i64 dm) ∧ w.cell? ⟨b, 2, none⟩ = some (.int .u64 sd) := by
  unfold Sg at h
  simp [World.cell?, h]

theorem Sg.lt {w : World} {T : TypeId} {b : Nat} {wd dm sd : Int} (h : Sg w T b wd dm sd) : b < w.heap.size := cell_ltS h.cells.1

theorem Sg.of {w w' : World} {T : TypeId} {b : Nat} {wd dm sd : Int} (h : Sg w T b wd dm sd) (e : w'.heap[b]? = w.heap[b]?) : Sg w' T b wd dm sd := e.trans h

/-- The number of a place in the row of all directions. -/
def mix1 (sd n : Int) : Int := IntKind.u64.wrap (sd + IntKind.u64.wrap (11400714819323198485 * n))

def mix2 (x : Int) : Int := IntKind.u64.wrap (bits .xor .u64 x (x / 1073741824) * 13787848793156543929)

def mix3 (x : Int) : Int := IntKind.u64.wrap (bits .xor .u64 x (x / 134217728) * 10723151780598845931)

def mixN (sd n : Int) : Int := bits .xor .u64 (mix3 (mix2 (mix1 sd n))) (mix3 (mix2 (mix1 sd n)) / 2147483648)

/-- Which unit: 0 to 3. -/
def unitN (sd : Int) (j k : Nat) : Int := mixN sd (1024 * (j : Int) + (k : Int) + 1) / 4611686018427387904

theorem mixed_calls (b : Nat) (wd dm sd n : Int) (w : World) (h : Sg w 48 b wd dm sd) :
    Calls Tryd.prog 23 #[.pointer (some ⟨b, 0, none⟩), .int .u64 n] w fun x w' => x = .returned (.int .u64 (mixN sd n)) ∧ w = w' := by
  obtain ⟨c0, c1, c2⟩ := h.cells
  clear h
  go_enter Tryd.func23, Tryd.ntmps23
  go_wp2
  go_ret
  exact ⟨rfl, rfl⟩

theorem unitN_range (sd : Int) (j k : Nat) : 0 ≤ unitN sd j k ∧ unitN sd j k ≤ 3 := by
  have h := bits_within .xor .u64 (mix3 (mix2 (mix1 sd (1024 * (j : Int) + (k : Int) + 1)))) (mix3 (mix2 (mix1 sd (1024 * (j : Int) + (k : Int) + 1))) / 2147483648)
  have h0 : (0 : Int) ≤ mixN sd (1024 * (j : Int) + (k : Int) + 1) := h.1
  have h1 : mixN sd (1024 * (j : Int) + (k : Int) + 1) ≤ 18446744073709551615 := h.2
  unfold unitN
  omega

/-- The unit as a float's words, and as whole numbers. -/
def uw (n : Int) : Nat × Nat := if n = 0 then (4607182418800017408, 0) else if n = 1 then (0, 4607182418800017408) else if n = 2 then (13830554455654793216, 0) else (0, 13830554455654793216)

def ui (n : Int) : Int × Int := if n = 0 then (1, 0) else if n = 1 then (0, 1) else if n = 2 then (-1, 0) else (0, -1)

theorem uw_is (n : Int) : IsW (uw n).1 (ui n).1 ∧ IsW (uw n).2 (ui n).2 := by
  have h1 : IsW 4607182418800017408 1 := ⟨false, by decide +kernel, by decide, by decide⟩
  have h2 : IsW 13830554455654793216 (-1) := ⟨true, by decide +kernel, by decide, by decide⟩
  unfold uw ui
  split
  · exact ⟨h1, IsW.zero⟩
  · split
    · exact ⟨IsW.zero, h1⟩
    · split
      · exact ⟨h2, IsW.zero⟩
      · exact ⟨IsW.zero, h2⟩

theorem unit_calls (n : Int) (w : World) :
    Calls Tryd.prog 22 #[.int .u64 n] w fun x w' => x = .returned (.complex .f64 (uw n).1 (uw n).2) ∧ w = w' := by
  unfold uw
  by_cases h0 : n = 0
  · have d0 : (n == 0) = true := by rw [beq_iff_eq]; exact h0
    rw [if_pos h0]
    clear h0
    go_enter Tryd.func22, Tryd.ntmps22
    go_wp2
    go_ret
    exact ⟨rfl, rfl⟩
  · have d0 : (n == 0) = false := by rw [beq_eq_false_iff_ne]; exact h0
    rw [if_neg h0]
    clear h0
    by_cases h1 : n = 1
    · have d1 : (n == 1) = true := by rw [beq_iff_eq]; exact h1
      rw [if_pos h1]
      clear h1
      go_enter Tryd.func22, Tryd.ntmps22
      go_wp2
      go_ret
      exact ⟨rfl, rfl⟩
    · have d1 : (n == 1) = false := by rw [beq_eq_false_iff_ne]; exact h1
      rw [if_neg h1]
      clear h1
      by_cases h2 : n = 2
      · have d2 : (n == 2) = true := by rw [beq_iff_eq]; exact h2
        rw [if_pos h2]
        clear h2
        go_enter Tryd.func22, Tryd.ntmps22
        go_wp2
        go_ret
        exact ⟨rfl, rfl⟩
      · have d2 : (n == 2) = false := by rw [beq_eq_false_iff_ne]; exact h2
        rw [if_neg h2]
        clear h2
        go_enter Tryd.func22, Tryd.ntmps22
        go_wp2
        go_ret
        exact ⟨rfl, rfl⟩
end Go.Proofs.YtcdlmjbjpeokfaaDoor

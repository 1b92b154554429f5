/-
  SORTED FILES: heads, what goes into a file, the order; as plain Lean, and by the program.
-/
import Derived.Test.YtihgjihdmlomaaaDoorCheckW
import Derived.Test.YtihgjihdmlomaaaDoorEnt
import Derived.Test.YtihgjihdmlomaaaDoorVar
import Derived.Test.YtihgjihdmlomaaaDoorFix
import Derived.Lib.Bytealg
import Derived.Laws.Externs
import Derived.Deep.QuietTactic
import Derived.BigQuiet
import Derived.Deep.RegionHeld3
import Derived.Outline
namespace Go.Proofs.YtihgjihdmlomaaaDoor
open Go.RowKit
set_option linter.unusedVariables false

/-- A file's head. -/
structure Hd where
  w : Int
  t : Int
  b : Int
  lo : Int
  hi : Int
  n : Int
deriving DecidableEq
def Hd.cells (h : Hd) : List Value := [.int .i64 h.w, .int .i64 h.t, .int .i64 h.b, .int .i64 h.lo, .int .i64 h.hi, .int .i64 h.n]
def Hd.val (h : Hd) : Value := .agg #[.int .i64 h.w, .int .i64 h.t, .int .i64 h.b, .int .i64 h.lo, .int .i64 h.hi, .int .i64 h.n]

/-- Why a file cannot have this head. -/
def headedR (h : Hd) : Int :=
  if widthB h.w = false then 10 else
  if h.t < 0 ∨ 128 ≤ h.t ∨ h.b < 1 ∨ 32 < h.b ∨ h.lo < 0 ∨ h.hi < h.lo ∨ 1152921504606846976 < h.hi then 13 else 0

/-- Why an entry cannot stand in a file of this head. -/
def fitsR (h : Hd) (e : Ent) : Int :=
  if (e.c.size : Int) ≠ h.w / 8 then 11 else
  if e.v < 0 ∨ 2 ^ h.b.toNat ≤ e.v then 13 else
  if e.i < 0 ∨ 281474976710656 < e.i then 60 else
  if e.s ≤ h.lo ∨ h.hi < e.s then 51 else 0

set_option maxRecDepth 100000 in
set_option maxHeartbeats 2000000 in
theorem headed_calls (h : Hd) (w : World) : Calls Tryd.prog 31 #[h.val] w fun e w' => e = .returned (.int .i64 (headedR h)) ∧ Below w.heap.size w w' := by
  obtain ⟨a, t, b, lo, hi, n⟩ := h
  obtain ⟨r, hr⟩ : ∃ r, headedR ⟨a, t, b, lo, hi, n⟩ = r := ⟨_, rfl⟩
  rw [hr]
  have HR := Lib.hid hr
  unfold Hd.val
  simp only
  clear hr
  have hB : ∀ o : Obj, Below w.heap.size w (w.alloc o) := fun o => (Below.refl _ w).alloc (Nat.le_refl _) o
  rcases hw : widthB a with _ | _
  · have hr : r = 10 := by rw [← HR.out]; unfold headedR; simp [hw]
    subst hr
    by_cases h1 : a < 64
    · clear hw
      go_enter Tryd.func31, Tryd.ntmps31
      go_wp2
      go_ret
      exact ⟨rfl, hB _⟩
    by_cases h2 : 1024 < a
    · clear hw
      go_enter Tryd.func31, Tryd.ntmps31
      go_wp2
      go_ret
      exact ⟨rfl, hB _⟩
    have h3 : ¬ a % 64 = 0 := fun e => by
      have : widthB a = true := by unfold widthB; simp; omega
      rw [this] at hw
      cases hw
    have h4 : (a % 64 != 0) = true := by rw [bne_iff_ne]; exact h3
    have h5 : 0 ≤ a := by omega
    clear hw h3
    go_enter Tryd.func31, Tryd.ntmps31
    go_wp2
    go_ret
    exact ⟨rfl, hB _⟩
  · obtain ⟨m, rfl, h1, h2, h3⟩ := widthB_true hw
    have h4 : ((m : Int) % 64 != 0) = false := by rw [bne_eq_false_iff_eq]; omega
    have hr : r = if t < 0 ∨ 128 ≤ t ∨ b < 1 ∨ 32 < b ∨ lo < 0 ∨ hi < lo ∨ 1152921504606846976 < hi then 13 else 0 := by rw [← HR.out]; unfold headedR; simp [hw]
    have H := Lib.hid hr
    clear hr hw h3
    have key : ∀ k : Int, r = k → (k = 13 ∨ k = 0) → True := fun _ _ _ => trivial
    by_cases g1 : t < 0
    · obtain rfl : r = 13 := by rw [H.out, if_pos (.inl g1)]
      go_enter Tryd.func31, Tryd.ntmps31
      go_wp2
      go_ret
      exact ⟨rfl, hB _⟩
    by_cases g2 : 128 ≤ t
    · obtain rfl : r = 13 := by rw [H.out, if_pos (by omega)]
      go_enter Tryd.func31, Tryd.ntmps31
      go_wp2
      go_ret
      exact ⟨rfl, hB _⟩
    by_cases g3 : b < 1
    · obtain rfl : r = 13 := by rw [H.out, if_pos (by omega)]
      go_enter Tryd.func31, Tryd.ntmps31
      go_wp2
      go_ret
      exact ⟨rfl, hB _⟩
    by_cases g4 : 32 < b
    · obtain rfl : r = 13 := by rw [H.out, if_pos (by omega)]
      go_enter Tryd.func31, Tryd.ntmps31
      go_wp2
      go_ret
      exact ⟨rfl, hB _⟩
    by_cases g5 : lo < 0
    · obtain rfl : r = 13 := by rw [H.out, if_pos (by omega)]
      go_enter Tryd.func31, Tryd.ntmps31
      go_wp2
      go_ret
      exact ⟨rfl, hB _⟩
    by_cases g6 : hi < lo
    · obtain rfl : r = 13 := by rw [H.out, if_pos (by omega)]
      go_enter Tryd.func31, Tryd.ntmps31
      go_wp2
      go_ret
      exact ⟨rfl, hB _⟩
    by_cases g7 : 1152921504606846976 < hi
    · obtain rfl : r = 13 := by rw [H.out, if_pos (by omega)]
      go_enter Tryd.func31, Tryd.ntmps31
      go_wp2
      go_ret
      exact ⟨rfl, hB _⟩
    obtain rfl : r = 0 := by rw [H.out, if_neg (by omega)]
    go_enter Tryd.func31, Tryd.ntmps31
    go_wp2
    go_ret
    exact ⟨rfl, hB _⟩
end Go.Proofs.YtihgjihdmlomaaaDoor

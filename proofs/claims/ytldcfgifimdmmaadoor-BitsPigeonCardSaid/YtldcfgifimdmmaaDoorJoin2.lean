/-
  WALKS: Join and Split, by the program, as plain contracts.
-/
import Derived.Test.YtldcfgifimdmmaaDoorJoin
import Derived.Test.YtldcfgifimdmmaaDoorSplit
namespace Go.Proofs.YtldcfgifimdmmaaDoor
open Go.RowKit Go.Shelf XKit
set_option linter.unusedVariables false

theorem Join_ok (w0 m0 : Nat) (q : Option Addr) (cap : Nat) (zs : List Int) (hc0 : chunkedR w0 m0 = 0) (hz : zs.length = m0) (w : World) (hq : ∀ i, i < m0 → ∃ a, q = some a ∧ w.cell? (a.add i) = some (.int .i64 (zs.getD i 0))) :
    Calls Tryd.prog 21 #[.int .i64 w0, .int .i64 m0, .slice q m0 cap] w fun e w' => ((∀ x : Fin m0, goodV w0 m0 zs x) → e = .returned (.tuple #[.string ⟨(joinB w0 m0 (zs.map Int.toNat)).toArray⟩, .int .i64 0])) ∧ ((¬ ∀ x : Fin m0, goodV w0 m0 zs x) → e = .returned (.tuple #[.string ⟨#[]⟩, .int .i64 13])) ∧ Below w.heap.size w w' := by
  obtain ⟨a, b, ha, hb, h1, h2, h3, h4, h5⟩ := chunkedR_zero hc0
  obtain rfl : w0 = a := by omega
  obtain rfl : m0 = b := by omega
  exact callsIn_wide.1 (Join_in w 6 (by omega) q cap zs w0 m0 hc0 hz hq (by omega) (by omega) h2 (fun j _ => cN_le w0 m0 j (by omega) (by omega)) (by omega))

set_option maxHeartbeats 1000000 in
/-- Another number of values. -/
theorem Join_len (a b : Int) (p : Option Addr) (n cap : Nat) (hc0 : chunkedR a b = 0) (hn : (n : Int) ≠ b) (w : World) :
    Calls Tryd.prog 21 #[.int .i64 a, .int .i64 b, .slice p n cap] w fun e w' => e = .returned (.tuple #[.string ⟨#[]⟩, .int .i64 13]) ∧ Below w.heap.size w w' := by
  have C := fun W => chunked_calls a b W
  simp only [hc0] at C
  have HC := Lib.hid C
  have hne : ((n : Int) != b) = true := by rw [bne_iff_ne]; exact hn
  clear C hc0
  go_enter Tryd.func21, Tryd.ntmps21
  go_wp2_with fail
  refine (HC.out _).mono ?_
  rintro e w1 ⟨rfl, rfl⟩
  go_wp2
  refine bodyPost_ret (v := .tuple #[.string ⟨#[]⟩, .int .i64 13]) ?_ rfl ?_
  · rw [results_cells2 rfl]
    go_simp
  · refine ⟨rfl, ?_⟩
    repeat (first | exact Below.refl _ _ | (refine Below.alloc ?_ (by simp; omega) _) | (refine Below.alloc ?_ (by simp) _) | (refine Below.alloc ?_ (Nat.le_refl _) _) | (refine Below.setCell ?_ (by simp; omega) _) | (refine Below.setCell ?_ (by simp) _))
end Go.Proofs.YtldcfgifimdmmaaDoor

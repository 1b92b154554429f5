/-
  WALKS: same, less and fit of the laws.
-/
import Derived.Test.YtmfanldekjkbiaaDoorTopC
import Derived.Laws.StructEq
namespace Go.Proofs.YtmfanldekjkbiaaDoor
open Go.RowKit
set_option linter.unusedVariables false

def hbeq (x y : Hv) : Bool := decide (x.d = y.d) && (decide (x.i = y.i) && decide (x.c = y.c))

theorem hbeq_eq (x y : Hv) : hbeq x y = decide (x = y) := by
  cases x; cases y
  unfold hbeq
  rw [Bool.eq_iff_iff]
  simp

theorem eql_hit (x y : Hv) (W : World) : (binOp .eql 36 (.agg #[.int .i64 x.d, .int .i64 x.i, .string x.c]) (.agg #[.int .i64 y.d, .int .i64 y.i, .string y.c])).run Tryd.prog W = .ok (.bool (decide (x = y))) W := by
  have hFo : Tryd.prog.underlying 36 = some (.struct (Tryd.prog.fieldsOf 36)) := by kernel_rfl
  have hSt : Tryd.prog.stoodInHeld 36 = false := by kernel_rfl
  rw [← hbeq_eq]
  unfold hbeq
  rw [run_eql_struct, run_equalIn_agg W _ _ _ _ hFo hSt]
  simp only [Program.fieldsOf, Tryd.underlying36]
  by_cases h1 : x.d = y.d
  · by_cases h2 : x.i = y.i
    · by_cases h3 : x.c = y.c
      · simp [Op.eqFields, part, run_equalIn_int, run_equalIn_string, Tryd.underlying3, Tryd.underlying9, h1, h2, h3]
      · simp [Op.eqFields, part, run_equalIn_int, run_equalIn_string, Tryd.underlying3, Tryd.underlying9, h1, h2, h3]
        exact fun e => h3 (toList_inj e)
    · simp [Op.eqFields, part, run_equalIn_int, run_equalIn_string, Tryd.underlying3, Tryd.underlying9, h1, h2]
  · simp [Op.eqFields, part, run_equalIn_int, run_equalIn_string, Tryd.underlying3, Tryd.underlying9, h1]

theorem neq_hit (x y : Hv) (W : World) : (binOp .neq 36 (.agg #[.int .i64 x.d, .int .i64 x.i, .string x.c]) (.agg #[.int .i64 y.d, .int .i64 y.i, .string y.c])).run Tryd.prog W = .ok (.bool (!decide (x = y))) W := by
  have hFo : Tryd.prog.underlying 36 = some (.struct (Tryd.prog.fieldsOf 36)) := by kernel_rfl
  have hSt : Tryd.prog.stoodInHeld 36 = false := by kernel_rfl
  rw [← hbeq_eq]
  unfold hbeq
  rw [run_neq_struct, run_equalIn_agg W _ _ _ _ hFo hSt]
  simp only [Program.fieldsOf, Tryd.underlying36]
  by_cases h1 : x.d = y.d
  · by_cases h2 : x.i = y.i
    · by_cases h3 : x.c = y.c
      · simp [Op.eqFields, part, run_equalIn_int, run_equalIn_string, Tryd.underlying3, Tryd.underlying9, h1, h2, h3]
      · simp [Op.eqFields, part, run_equalIn_int, run_equalIn_string, Tryd.underlying3, Tryd.underlying9, h1, h2, h3]
        exact fun e => h3 (toList_inj e)
    · simp [Op.eqFields, part, run_equalIn_int, run_equalIn_string, Tryd.underlying3, Tryd.underlying9, h1, h2]
  · simp [Op.eqFields, part, run_equalIn_int, run_equalIn_string, Tryd.underlying3, Tryd.underlying9, h1]

theorem HL.gr {w w' : World} {p : Option Addr} {z : List Hv} (h : HL w p z) (hg : Gr w w') : HL w' p z := h.below hg.below

/-- k, or what is left of it. -/
def fitI (k : Int) : Nat := (k.tmod 4097).natAbs

theorem fitI_le (k : Int) : fitI k ≤ 4096 := by
  unfold fitI
  rw [Int.natAbs_tmod]
  have : k.natAbs % 4097 < 4097 := Nat.mod_lt k.natAbs (show 0 < 4097 by decide)
  show k.natAbs % 4097 ≤ 4096
  omega

end Go.Proofs.YtmfanldekjkbiaaDoor

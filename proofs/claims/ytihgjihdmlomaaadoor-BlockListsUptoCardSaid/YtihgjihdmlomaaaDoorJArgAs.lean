/-
  READING ARGUMENTS: what is asked of a file (the law's Ask).
-/
import Derived.Test.YtihgjihdmlomaaaDoorJE
namespace Go.Proofs.YtihgjihdmlomaaaDoor
open Go.RowKit ArgK
set_option linter.unusedVariables false

/-- An asking's cells. -/
def IsAsk (cs : List Value) (x : Ent × Int) : Prop := cs = x.1.cells ++ [.int .i64 x.2] ∧ (Lit.int .i64 x.2).wf = true
def bkAsk (x : Ent × Int) : Nat := x.1.c.size + 8
theorem rd_Ask (W : World) : RdT Tryd.prog W 44 IsAsk bkAsk := by
  have e : Tryd.prog.cellsOf 44 = 6 := by kernel_rfl
  have e0 : Tryd.prog.cellsOf 33 = 5 := by kernel_rfl
  have e1 : Tryd.prog.cellsOf 3 = 1 := by kernel_rfl
  refine RdT.mono (rd_struct Tryd.underlying44 (rdf_cons (rd_Entry W) (rdf_cons (rd_int Tryd.underlying3) rdf_nil))) ?_
  rintro cs ⟨x, m, u⟩ ⟨hl, h0, h1, _⟩
  simp only [e0, e1] at h0 h1
  rw [e] at hl
  match cs, hl with
  | [c0, c1, c2, c3, c4, c5], _ =>
    simp at h1
    have h2 := h0.1
    simp at h2
    refine ⟨(x, m), ⟨?_, h1.2⟩, ?_⟩
    · rw [h1.1]
      show [c0, c1, c2, c3, c4] ++ [Value.int .i64 m] = _
      rw [h2]
    · show x.c.size + 8 ≤ (x.c.size + 6) + (1 + 0) + 1
      omega

/-- The six cells of an asking. -/
def Six6 (w : World) (p : Addr) (x : Ent × Int) : Prop := Five w p x.1 ∧ w.cell? ⟨p.block, p.off + 5, none⟩ = some (.int .i64 x.2)
/-- A readable list of askings that lies below block B. -/
def AL (w : World) (B : Nat) (p : Option Addr) (L : List (Ent × Int)) : Prop := ∀ i x, L[i]? = some x → x.2 ≤ 9223372036854775807 ∧ ∃ a : Addr, p = some a ∧ a.block < B ∧ Six6 w (a.add (i * 6)) x
theorem AL.below {w w' : World} {B B' : Nat} {p : Option Addr} {L : List (Ent × Int)} (h : AL w B p L) (hb : Below B' w w') (hB : B ≤ B') : AL w' B p L := by
  intro i x hx
  obtain ⟨hm, a, rfl, ha, h5, h6⟩ := h i x hx
  exact ⟨hm, a, rfl, ha, h5.below hb (by rw [add_blockE]; omega), (hb.cell (p := ⟨(a.add (i * 6)).block, (a.add (i * 6)).off + 5, none⟩) (by show (a.add (i * 6)).block < _; rw [add_blockE]; omega)).trans h6⟩
theorem al_arg {w : World} {v : Value} {z : List (Ent × Int)} (h : IsSl w 6 56 IsAsk [v] z) : ∃ (p : Option Addr) (c : Nat), v = .slice p z.length c ∧ z.length * 56 ≤ 140737488351232 ∧ AL w w.heap.size p z := by
  obtain ⟨hz1, hz2⟩ := h
  rcases hz2 with ⟨h, rfl⟩ | ⟨a, cap, h, h1, h2, hc⟩
  · cases h
    exact ⟨none, 0, rfl, by simp, fun i x hx => by simp at hx⟩
  · cases h
    refine ⟨some a, cap, rfl, by omega, fun i x hx => ?_⟩
    obtain ⟨c, _, hr, hcell⟩ := hc i x hx
    obtain ⟨rfl, hwf⟩ := hr
    have hc0 : ∀ k, k < 6 → w.cell? (a.add (i * 6 + k)) = (x.1.cells ++ [Value.int .i64 x.2])[k]? := hcell
    have h5 : Five w (a.add (i * 6)) x.1 := by
      refine ⟨hc0 0 (by decide), ?_, ?_, ?_, ?_⟩
      · rw [add_field _ _ _ (by decide)]; exact hc0 1 (by decide)
      · rw [add_field _ _ _ (by decide)]; exact hc0 2 (by decide)
      · rw [add_field _ _ _ (by decide)]; exact hc0 3 (by decide)
      · rw [add_field _ _ _ (by decide)]; exact hc0 4 (by decide)
    refine ⟨?_, a, rfl, by have := h5.lt; rw [add_blockE] at this; exact this, h5, ?_⟩
    · simp [Lit.wf] at hwf
      omega
    · rw [add_field _ _ _ (by decide)]; exact hc0 5 (by decide)
theorem ask_arg {sa : Array Value} {x : Ent × Int} (h : IsAsk sa.toList x) : sa = #[.int .i64 x.1.v, .string x.1.c, .int .i64 x.1.i, .int .i64 x.1.s, .bool x.1.d, .int .i64 x.2] ∧ x.2 ≤ 9223372036854775807 := by
  obtain ⟨h1, h2⟩ := h
  refine ⟨by rw [← Array.toList_inj, h1]; rfl, ?_⟩
  simp [Lit.wf] at h2
  omega
end Go.Proofs.YtihgjihdmlomaaaDoor

/-
  PLAIN LAWS for the law SignSums: what stays in memory from round to round; reading the argument.
-/
import Derived.Test.YtcdlmjbjpeokfaaDoorApartS
import Derived.Test.YtcdlmjbjpeokfaaDoorSumsW
import Derived.Test.YtcdlmjbjpeokfaaDoorNewS
import Derived.Test.YtcdlmjbjpeokfaaDoorArgK
namespace Go.Proofs.YtcdlmjbjpeokfaaDoor
open Go.RowKit ArgK
set_option linter.unusedVariables false


theorem add_fieldS (a : Addr) (i k : Nat) (hk : k ≠ 0) : (⟨(a.add i).block, (a.add i).off + k, none⟩ : Addr) = a.add (i + k) := by
  unfold Addr.add
  by_cases hi : i = 0
  · subst hi; simp [hk]
  · simp [hi, hk, Nat.add_assoc]

/-- A part's cells. -/
def IsPt (cs : List Value) (x : Int × Int) : Prop := cs = cellsP x ∧ (Lit.int .i64 x.1).wf = true ∧ (Lit.int .i64 x.2).wf = true

theorem rd_Part (W : World) : RdT Tryd.prog W 36 IsPt (fun _ => 3) := by
  have e : Tryd.prog.cellsOf 36 = 2 := by kernel_rfl
  have e1 : Tryd.prog.cellsOf 3 = 1 := by kernel_rfl
  refine RdT.mono (rd_struct Tryd.underlying36 (rdf_cons (rd_int Tryd.underlying3) (rdf_cons (rd_int Tryd.underlying3) rdf_nil))) ?_
  rintro cs ⟨d, i, u⟩ ⟨hl, h0, h1, _⟩
  simp only [e1] at h0 h1
  rw [e] at hl
  match cs, hl with
  | [c0, c1], _ =>
    simp at h0 h1
    exact ⟨⟨d, i⟩, ⟨by rw [h0.1, h1.1]; rfl, h0.2, h1.2⟩, by show 3 ≤ 1 + (1 + 0) + 1; omega⟩

theorem parts_of_arg {w : World} {v : Value} {z : List (Int × Int)} (h : IsSl w 2 16 IsPt [v] z) : z.length * 16 ≤ 140737488351232 ∧ (∃ (p : Option Addr) (cap : Nat), v = .slice p z.length cap ∧ PL w p z) ∧ ∀ x ∈ z, (Lit.int .i64 x.1).wf = true ∧ (Lit.int .i64 x.2).wf = true := by
  obtain ⟨h1, h2⟩ := h
  refine ⟨h1, ?_⟩
  rcases h2 with ⟨h, rfl⟩ | ⟨a, cap, h, _, _, hc⟩
  · cases h
    exact ⟨⟨none, 0, rfl, fun i x hx => by simp at hx⟩, fun x hx => by simp at hx⟩
  · cases h
    refine ⟨⟨some a, cap, rfl, fun i x hx => ?_⟩, fun x hx => ?_⟩
    · obtain ⟨c, _, hr, hcell⟩ := hc i x hx
      obtain ⟨rfl, _⟩ := hr
      refine ⟨a, rfl, hcell 0 (by decide), ?_⟩
      rw [add_fieldS _ _ _ (by decide)]; exact hcell 1 (by decide)
    · obtain ⟨i, hi, hx⟩ := List.getElem_of_mem hx
      obtain ⟨c, _, hr, _⟩ := hc i x (by rw [List.getElem?_eq_getElem hi, hx])
      exact hr.2

theorem grown_allocS {a w : World} {row : Option Nat} (h : a.grownBy w row) (o : Obj) : a.grownBy (w.alloc o) row :=
  ⟨h.os, h.tape, h.output, by have := h.size; simp; omega, fun k hk hr => (Below.heap_alloc w o k (by have := h.size; omega)).trans (h.block k hk hr)⟩

theorem grown_setS {a w : World} {row : Option Nat} (h : a.grownBy w row) (p : Addr) (hp : a.heap.size ≤ p.block) (v : Value) : a.grownBy (w.setCell p v) row := by
  have hb := (Below.refl a.heap.size w).setCell (p := p) hp v
  exact ⟨h.os, h.tape, h.output, by simpa using h.size, fun k hk hr => (hb.block k hk).trans (h.block k hk hr)⟩

theorem grown_liesS {a w w' : World} {row : Option Nat} {v : Value} {n g cap : Nat} (h : a.grownBy w row) (hl : Lies w w' v n g cap) (hv : ∀ b, v.ownBlock = some b → a.heap.size ≤ b) : a.grownBy w' row := by
  have hr := hl.row
  exact ⟨hr.os.trans h.os, hr.tape.trans h.tape, hr.output.trans h.output, Nat.le_trans h.size hr.size, fun k hk hw => (hl.block (by have := h.size; omega) (fun e => by have := hv k e; omega)).trans (h.block k hk hw)⟩

theorem encP_app (L M : List (Int × Int)) : encP (L ++ M) = encP L ++ encP M := by simp [encP]

theorem oneCellsP (x : Int × Int) : ∀ u ∈ cellsP x, u.oneCell' = true := by simp [cellsP, Value.oneCell']
end Go.Proofs.YtcdlmjbjpeokfaaDoor

/-
  WALK: MergeLastWord.
-/
import Derived.Test.YtahdaccmokjgpaaLawMK
namespace Go.Proofs.Ytahdaccmokjgpaa
open Go.RowKit ArgK
set_option linter.unusedVariables false

theorem esl_arg {w : World} {v : Value} {z : List Ent} (h : IsSl w 5 48 IsEnt [v] z) : ESl w v z ∧ z.length ≤ 4398046511104 ∧ ∀ x ∈ z, (Lit.int .i64 x.s).wf = true := by
  obtain ⟨hz1, hz2⟩ := h
  refine ⟨?_, by omega, ?_⟩
  · rcases hz2 with ⟨h, rfl⟩ | ⟨a, cap, h, _, _, hc⟩
    · cases h
      exact ⟨none, 0, rfl, fun i x hx => by simp at hx⟩
    · cases h
      refine ⟨some a, cap, rfl, fun i x hx => ?_⟩
      obtain ⟨c, _, hr, hcell⟩ := hc i x hx
      obtain ⟨rfl, _⟩ := hr
      exact ⟨a, rfl, hcell⟩
  · intro x hx
    obtain ⟨i, hi⟩ := List.getElem?_of_mem hx
    rcases hz2 with ⟨h, rfl⟩ | ⟨a, cap, h, _, _, hc⟩
    · simp at hx
    · obtain ⟨c, _, hr, _⟩ := hc i x hi
      exact hr.2.2.2.2

theorem row_below {w W : World} {v : Value} {z : List Int} (h : XKit.IsRow w v z) (hb : Below w.heap.size w W) : XKit.IsRow W v z := by
  obtain ⟨h1, h2, h3⟩ := h
  refine ⟨h1, h2, ?_⟩
  rcases h3 with h | ⟨a, cap, rfl, hc1, hc2, h⟩
  · exact .inl h
  · exact .inr ⟨a, cap, rfl, hc1, hc2, fun i hi => (hb.cell (cell_ltE (h i hi))).trans (h i hi)⟩

/-- The list of fresh entries, and how it is dealt. -/
theorem fresh_run {w W : World} {v : Value} {z all : List Ent} (hv : ESl w v z) (hz : z.length ≤ 4398046511104) (ha : freshF [] z = all) (hb : Below w.heap.size w W) :
    Calls Try.prog 26 #[v] W (fun e W' => ∃ q c, e = .returned (.slice q all.length c) ∧ Below W.heap.size W W' ∧ W'.ownsRow W.heap.size 24 5 (.slice q all.length c) all.length (encE all)) :=
  (fresh_calls (hv.below hb) hz).mono (fun e W' ⟨u, h1, h2, h3⟩ => by
    rw [ha] at h3
    obtain ⟨q, c, rfl, _⟩ := own_rd h3
    exact ⟨q, c, h1, h2, h3⟩)

theorem dealt_run {W : World} {v tv : Value} {tz : List Int} {all : List Ent} (hv : ESl W v all) (hl : all.length ≤ 60) (ht : XKit.IsRow W tv tz) :
    Calls Try.prog 27 #[v, tv] W (fun e W' => ∃ p m c lists, e = .returned (.slice p m c) ∧ lists.length = m ∧ Below W.heap.size W W' ∧ DL W.heap.size (.slice p m c) lists W' ∧ Dealt lists all) :=
  (dealt_calls hv hl ht).mono (fun e W' ⟨u, lists, h1, h2, h3, h4⟩ => by
    have hh := h3
    obtain ⟨vs, h5, _⟩ := hh
    obtain ⟨p, c, rfl, _⟩ := own_rd h5
    exact ⟨p, _, c, lists, h1, rfl, h2, h3, h4⟩)

theorem last_run {W : World} {v : Value} {all : List Ent} (bottom : Bool) (hv : ESl W v all) (hl : all.length ≤ 60) :
    Calls Try.prog 28 #[v, .bool bottom] W (fun e W' => ∃ q c, e = .returned (.slice q (lastG all bottom [] all).length c) ∧ Below W.heap.size W W' ∧ ESl W' (.slice q (lastG all bottom [] all).length c) (lastG all bottom [] all)) :=
  (last_calls bottom hv (by omega)).mono (fun e W' ⟨u, h1, h2, h3⟩ => by
    obtain ⟨q, c, rfl, _⟩ := own_rd h3
    exact ⟨q, c, h1, h2, ESl.of_own h3⟩)
end Go.Proofs.Ytahdaccmokjgpaa

/-
  PLAIN, and memory: Merge of lists that were dealt, with the first entry once more behind them.
-/
import Derived.Test.YtahdaccmokjgpaaLawML
namespace Go.Proofs.Ytahdaccmokjgpaa
open Go.RowKit ArgK
set_option linter.unusedVariables false

theorem run_length (bottom : Bool) : ∀ (f : Nat) (m : Mst), (Mst.run bottom f m).1.length ≤ f
  | 0, m => by simp [Mst.run]
  | k + 1, m => by
    unfold Mst.run
    split
    · simp
    · split
      · simp
      · have := run_length bottom k (m.next bottom).2
        simp
        omega

theorem new_left (lists : List (List Ent)) : (Mst.new lists).left = lists.flatten.length + lists.length := by
  unfold Mst.left Mst.new
  simp only [List.map_map]
  induction lists with
  | nil => rfl
  | cons L l ih =>
    simp only [List.map_cons, List.sum_cons, List.flatten_cons, List.length_append, List.length_cons, Function.comp_apply]
    rw [ih]
    simp
    omega

theorem mergeM_length (lists : List (List Ent)) (bottom : Bool) : (mergeM lists bottom).1.length ≤ lists.flatten.length + lists.length + 1 := by
  have := run_length bottom ((Mst.new lists).left + 1) (Mst.new lists)
  rw [new_left] at this
  unfold mergeM
  rw [new_left]
  exact this

theorem DL.le {B B' : Nat} {lv : Value} {lists : List (List Ent)} {w : World} (h : DL B lv lists w) (hb : B' ≤ B) : DL B' lv lists w := by
  obtain ⟨vs, h1, h2⟩ := h
  exact ⟨vs, own_le h1 hb, fun i v L hv hL => own_le (h2 i v L hv hL) hb⟩

/-- Merge, of lists that were dealt and one entry of theirs. -/
theorem merge_again {W : World} {B : Nat} {p : Option Addr} {n c : Nat} {lists : List (List Ent)} {all : List Ent} {x : Ent} (hD : DL B (.slice p n c) (lists ++ [[x]]) W) (hA : Dealt lists all) (hx : x ∈ all) (hl : all.length ≤ 60) (hwf : ∀ e ∈ all, (Lit.int .i64 e.s).wf = true) :
    Calls Try.prog 22 #[.slice p n c, .bool false] W (fun e w' => e = .returned (.tuple #[.slice none 0 0, .int .i64 51]) ∧ Below W.heap.size W w') := by
  obtain ⟨hn, hL⟩ := hD.lls
  have hm := merge_twice hA hx
  have hlen := mergeM_length (lists ++ [[x]]) false
  have h3 := hA.2.2
  have h4 := hA.2.1.length_eq
  simp only [List.flatten_append, List.length_append, List.flatten_cons, List.flatten_nil, List.append_nil, List.length_cons, List.length_nil] at hlen
  have hmem : ∀ L ∈ lists ++ [[x]], ∀ e ∈ L, e ∈ all := fun L hL e he => by
    rcases List.mem_append.1 hL with h | h
    · exact hA.mem h he
    · simp at h
      subst h
      simp at he
      subst he
      exact hx
  have hsh : ∀ L ∈ lists ++ [[x]], L.length ≤ 61 := fun L hL => by
    rcases List.mem_append.1 hL with h | h
    · have := hA.short h
      omega
    · simp at h
      subst h
      simp
  have hri : ∀ L ∈ lists ++ [[x]], rises L := fun L hL => by
    rcases List.mem_append.1 hL with h | h
    · exact hA.1 L h
    · simp at h
      subst h
      exact rises_iff.2 (List.pairwise_singleton _ _)
  have hll : (lists ++ [[x]]).length ≤ 61 := by simp; omega
  refine (Merge_calls (n := n) (c := c) false hn.symm (by omega) hL (fun L hL => by have := hsh L hL; omega) (by omega) (swf_new (fun L hL e he => hwf e (hmem L hL e he)))).mono (fun e w' h => ?_)
  have h2 := h.1 hri
  obtain ⟨v, e1, hb, _, hv⟩ := h2
  rw [hm] at e1 hv
  rw [hv (by decide)] at e1
  exact ⟨e1, hb⟩
end Go.Proofs.Ytahdaccmokjgpaa

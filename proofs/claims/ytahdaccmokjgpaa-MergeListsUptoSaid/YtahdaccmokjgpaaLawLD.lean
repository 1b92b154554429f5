/-
  LISTS that are dealt: what they are in memory; plain laws of put.
-/
import Derived.Test.YtahdaccmokjgpaaLawLF
import Derived.Test.YtahdaccmokjgpaaKit
namespace Go.Proofs.Ytahdaccmokjgpaa
open Go.RowKit ArgK
set_option linter.unusedVariables false

theorem rises_iff {L : List Ent} : rises L ↔ L.Pairwise eless := by
  constructor
  · intro h
    rw [List.pairwise_iff_getElem]
    intro i j hi hj hij
    exact rises_lt h j i _ _ hij (List.getElem?_eq_getElem hi) (List.getElem?_eq_getElem hj)
  · intro h j x y hx hy
    obtain ⟨h1, e1⟩ := List.getElem?_eq_some_iff.1 hx
    obtain ⟨h2, e2⟩ := List.getElem?_eq_some_iff.1 hy
    have := List.pairwise_iff_getElem.1 h j (j + 1) h1 h2 (by omega)
    rw [e1, e2] at this
    exact this

theorem rises_nil : rises [] := fun j x y h => by simp at h

theorem insL_perm (L : List Ent) (e : Ent) : (insL L e).Perm (e :: L) := by
  unfold insL
  rw [List.append_assoc, List.singleton_append]
  have h := List.perm_middle (a := e) (l₁ := L.take (ahead L e)) (l₂ := L.drop (ahead L e))
  rw [List.take_append_drop] at h
  exact h

theorem insL_rises {L : List Ent} {e : Ent} (h : rises L) (ht : ¬ there L e) : rises (insL L e) := by
  rw [rises_iff] at h ⊢
  have hd : ∀ y ∈ L.drop (ahead L e), eless e y := fun y hy => by
    obtain ⟨j, hj⟩ := List.getElem?_of_mem hy
    rw [List.getElem?_drop] at hj
    obtain ⟨z, hz⟩ : ∃ z, L[ahead L e]? = some z := ⟨_, List.getElem?_eq_getElem (by have := (List.getElem?_eq_some_iff.1 hj).1; omega)⟩
    have h1 := ahead_stop hz
    have h2 : ¬ eat z e := fun k => ht ⟨z, hz, k⟩
    have h3 : eless e z := by
      rcases eless_or e z with k | k | k
      · exact k
      · exact absurd (eat_symm k) h2
      · exact absurd k h1
    cases j with
    | zero => rw [Nat.add_zero, hz] at hj; cases hj; exact h3
    | succ j => exact eless_trans h3 (rises_lt (rises_iff.2 h) _ _ z y (by omega) hz hj)
  have ht2 : ∀ x ∈ L.take (ahead L e), eless x e := fun x hx => by
    obtain ⟨j, hj⟩ := List.getElem?_of_mem hx
    rw [List.getElem?_take] at hj
    split at hj
    · next hlt => exact ahead_lt hlt hj
    · cases hj
  unfold insL
  rw [List.append_assoc, List.singleton_append, List.pairwise_append]
  refine ⟨h.sublist (List.take_sublist _ _), List.pairwise_cons.2 ⟨hd, h.sublist (List.drop_sublist _ _)⟩, fun x hx y hy => ?_⟩
  rcases List.mem_cons.1 hy with rfl | hy
  · exact ht2 x hx
  · exact eless_trans (ht2 x hx) (hd y hy)

theorem insL_length (L : List Ent) (e : Ent) : (insL L e).length = L.length + 1 := by
  have := (insL_perm L e).length_eq
  simpa using this

/-- Lists of entries in memory, all of the call's own. -/
def DL (B : Nat) (lv : Value) (lists : List (List Ent)) (wr : World) : Prop :=
  ∃ vs : List Value, wr.ownsRow B 25 1 lv lists.length vs ∧ ∀ (i : Nat) (v : Value) (L : List Ent), vs[i]? = some v → lists[i]? = some L → wr.ownsRow B 24 5 v L.length (encE L)

theorem DL.below {B : Nat} {lv : Value} {lists : List (List Ent)} {w w' : World} (h : DL B lv lists w) (hb : Below w.heap.size w w') : DL B lv lists w' := by
  obtain ⟨vs, h1, h2⟩ := h
  exact ⟨vs, own_belowAll h1 hb, fun i v L hv hL => own_belowAll (h2 i v L hv hL) hb⟩

theorem DL.vs_length {B : Nat} {lv : Value} {lists : List (List Ent)} {w : World} {vs : List Value} (h : w.ownsRow B 25 1 lv lists.length vs) : vs.length = lists.length := by
  have := h.1
  omega

/-- One list more. -/
theorem DL.grow {B : Nat} {lv lv' v : Value} {lists : List (List Ent)} {L : List Ent} {w wa w' : World} {vs : List Value} (h1 : w.ownsRow B 25 1 lv lists.length vs) (h2 : ∀ (i : Nat) (v : Value) (L : List Ent), vs[i]? = some v → lists[i]? = some L → w.ownsRow B 24 5 v L.length (encE L)) (hv : wa.ownsRow B 24 5 v L.length (encE L)) (ha : Below w.heap.size w wa)
    (hg : wa.grownBy w' lv.ownBlock) (hown : w'.ownsRow B 25 1 lv' (lists.length + 1) (vs ++ [v])) : DL B lv' (lists ++ [L]) w' := by
  have hl := DL.vs_length h1
  have hne : ∀ {u : Value} {K : List Ent}, wa.ownsRow B 24 5 u K.length (encE K) → w'.ownsRow B 24 5 u K.length (encE K) := fun {u K} hu => by
    refine ⟨hu.1, ?_⟩
    rcases hu.2 with hn | ⟨g, cap, cur, rfl, hb, hgg, rest⟩
    · exact .inl hn
    · refine .inr ⟨g, cap, cur, rfl, hb, (hg.block g (Array.getElem?_eq_some_iff.1 hgg).1 (fun e => ?_)).trans hgg, rest⟩
      exact own_ne hu (own_belowAll h1 ha) (by decide) g rfl e.symm
  refine ⟨vs ++ [v], by rw [List.length_append, List.length_singleton]; exact hown, fun i u K hu hK => ?_⟩
  rcases Nat.lt_or_ge i vs.length with hi | hi
  · rw [List.getElem?_append_left hi] at hu
    rw [List.getElem?_append_left (by omega)] at hK
    exact hne (own_belowAll (h2 i u K hu hK) ha)
  · rw [List.getElem?_append_right hi] at hu
    rw [List.getElem?_append_right (by omega)] at hK
    have h0 : i - vs.length = 0 := by
      have := (List.getElem?_eq_some_iff.1 hu).1
      simp at this
      omega
    rw [h0] at hu
    rw [show i - lists.length = 0 by omega] at hK
    simp at hu hK
    subst hu hK
    exact hne hv

/-- A list written over. -/
theorem DL.set {B g n c : Nat} {v : Value} {lists : List (List Ent)} {L : List Ent} {w : World} {k : Nat} {vs : List Value} (h1 : w.ownsRow B 25 1 (.slice (some ⟨g, 0, none⟩) n c) n vs) (hn : lists.length = n) (h2 : ∀ (i : Nat) (v : Value) (L : List Ent), vs[i]? = some v → lists[i]? = some L → w.ownsRow B 24 5 v L.length (encE L)) (hv : w.ownsRow B 24 5 v L.length (encE L)) : DL B (.slice (some ⟨g, 0, none⟩) n c) (lists.set k L) (w.setCell ⟨g, k, none⟩ v) := by
  have hne : ∀ {u : Value} {K : List Ent}, w.ownsRow B 24 5 u K.length (encE K) → (w.setCell ⟨g, k, none⟩ v).ownsRow B 24 5 u K.length (encE K) := fun {u K} hu => own_setCell hu (p := ⟨g, k, none⟩) (fun e => own_ne hu h1 (by decide) g e rfl) v
  have hs := (h1.stored k v).1
  refine ⟨vs.set k v, by rw [List.length_set, hn]; exact hs, fun i u K hu hK => ?_⟩
  by_cases hik : i = k
  · subst hik
    have hl : vs.length = n := by have := h1.1; omega
    have hi := (List.getElem?_eq_some_iff.1 hu).1
    rw [List.length_set] at hi
    rw [List.getElem?_set_self hi] at hu
    rw [List.getElem?_set_self (by omega)] at hK
    cases hu
    cases hK
    exact hne hv
  · rw [List.getElem?_set_ne (fun e => hik e.symm)] at hu hK
    exact hne (h2 i u K hu hK)

theorem flatten_set : ∀ (lists : List (List Ent)) (k : Nat) (L : List Ent) (e : Ent), lists[k]? = some L → (lists.set k (insL L e)).flatten.Perm (e :: lists.flatten)
  | [], k, L, e, h => by simp at h
  | K :: lists, 0, L, e, h => by
    simp at h
    subst h
    rw [List.set_cons_zero, List.flatten_cons, List.flatten_cons, ← List.cons_append]
    exact (insL_perm K e).append_right _
  | K :: lists, k + 1, L, e, h => by
    rw [List.set_cons_succ, List.flatten_cons, List.flatten_cons]
    exact ((flatten_set lists k L e (by simpa using h)).append_left K).trans List.perm_middle

/-- What is so of lists that entries were dealt to. -/
def Dealt (lists : List (List Ent)) (all : List Ent) : Prop := (∀ L ∈ lists, rises L) ∧ lists.flatten.Perm all ∧ lists.length ≤ all.length

theorem Dealt.put {lists : List (List Ent)} {all : List Ent} {k : Nat} {L : List Ent} {e : Ent} (h : Dealt lists all) (hL : lists[k]? = some L) (ht : ¬ there L e) : Dealt (lists.set k (insL L e)) (all ++ [e]) := by
  obtain ⟨h1, h2, h3⟩ := h
  refine ⟨fun K hK => ?_, ?_, by simp; omega⟩
  · rcases List.mem_or_eq_of_mem_set hK with h | rfl
    · exact h1 K h
    · exact insL_rises (h1 L (List.mem_of_getElem? hL)) ht
  · exact ((flatten_set lists k L e hL).trans (h2.cons e)).trans (List.perm_append_singleton e all).symm

theorem Dealt.new {lists : List (List Ent)} {all : List Ent} {e : Ent} (h : Dealt lists all) : Dealt ((lists ++ [[]]).set lists.length (insL [] e)) (all ++ [e]) := by
  obtain ⟨h1, h2, h3⟩ := h
  have hL : (lists ++ [[]])[lists.length]? = some [] := by simp
  refine ⟨fun K hK => ?_, ?_, by simp; omega⟩
  · rcases List.mem_or_eq_of_mem_set hK with h | rfl
    · rcases List.mem_append.1 h with h | h
      · exact h1 K h
      · simp at h; subst h; exact rises_nil
    · exact insL_rises rises_nil (fun ⟨x, hx, _⟩ => by simp at hx)
  · refine ((flatten_set _ _ _ e hL).trans ?_).trans (List.perm_append_singleton e all).symm
    simp only [List.flatten_append, List.flatten_cons, List.flatten_nil, List.append_nil]
    exact h2.cons e
end Go.Proofs.Ytahdaccmokjgpaa

/-
  PLAIN: the document's put, and what it makes of lists that rise: the last words.
-/
import Derived.Test.YtahdaccmokjgpaaLawLP
import Derived.Test.YtahdaccmokjgpaaLawLD
import Derived.Test.YtahdaccmokjgpaaMrgZ
namespace Go.Proofs.Ytahdaccmokjgpaa
open Go.RowKit ArgK
set_option linter.unusedVariables false

/-- The document's put. -/
def rput (L : List Ent) (e : Ent) : List Ent :=
  match L[ahead L e]? with
  | none => insL L e
  | some x => if eat x e then (if x.s < e.s then L.take (ahead L e) ++ [e] ++ L.drop (ahead L e + 1) else L) else insL L e

theorem not_there {L : List Ent} {e : Ent} (hr : rises L) (ht : ¬ there L e) : ∀ x ∈ L, ¬ eat x e := by
  intro x hx hat
  obtain ⟨j, hj⟩ := List.getElem?_of_mem hx
  rcases Nat.lt_trichotomy j (ahead L e) with h | h | h
  · exact eless_not_eat (ahead_lt h hj) hat
  · subst h
    exact ht ⟨x, hj, hat⟩
  · obtain ⟨z, hz⟩ : ∃ z, L[ahead L e]? = some z := ⟨_, List.getElem?_eq_getElem (by have := (List.getElem?_eq_some_iff.1 hj).1; omega)⟩
    have h1 := ahead_stop hz
    have h2 : ¬ eat z e := fun k => ht ⟨z, hz, k⟩
    have h3 : eless e z := by
      rcases eless_or e z with k | k | k
      · exact k
      · exact absurd (eat_symm k) h2
      · exact absurd k h1
    have h4 := rises_lt hr j (ahead L e) z x h hz hj
    exact eless_not_eat (eless_trans h3 h4) (eat_symm hat)
theorem rises_one {L : List Ent} (hr : rises L) {x y : Ent} (hx : x ∈ L) (hy : y ∈ L) (hat : eat x y) : x = y := by
  obtain ⟨i, hi⟩ := List.getElem?_of_mem hx
  obtain ⟨j, hj⟩ := List.getElem?_of_mem hy
  rcases Nat.lt_trichotomy i j with h | h | h
  · exact absurd hat (eless_not_eat (rises_lt hr j i x y h hi hj))
  · subst h
    rw [hi] at hj
    exact Option.some.inj hj
  · exact absurd (eat_symm hat) (eless_not_eat (rises_lt hr i j y x h hj hi))
theorem insL_mem {L : List Ent} {e y : Ent} : y ∈ insL L e ↔ y = e ∨ y ∈ L := by
  rw [(insL_perm L e).mem_iff, List.mem_cons]

theorem rput_spec {L : List Ent} {e : Ent} (hr : rises L) : rises (rput L e) ∧ ∀ y, y ∈ rput L e ↔ (y = e ∧ ∀ x ∈ L, eat x e → x.s < e.s) ∨ (y ∈ L ∧ (eat y e → e.s ≤ y.s)) := by
  have hins : ¬ there L e → rises (insL L e) ∧ ∀ y, y ∈ insL L e ↔ (y = e ∧ ∀ x ∈ L, eat x e → x.s < e.s) ∨ (y ∈ L ∧ (eat y e → e.s ≤ y.s)) := fun ht => by
    have hn := not_there hr ht
    refine ⟨insL_rises hr ht, fun y => ?_⟩
    rw [insL_mem]
    constructor
    · rintro (h | h)
      · exact .inl ⟨h, fun x hx k => absurd k (hn x hx)⟩
      · exact .inr ⟨h, fun k => absurd k (hn y h)⟩
    · rintro (h | h)
      · exact .inl h.1
      · exact .inr h.1
  unfold rput
  cases hx : L[ahead L e]? with
  | none => exact hins (fun ⟨z, hz, _⟩ => by rw [hx] at hz; cases hz)
  | some x =>
    simp only
    by_cases hat : eat x e
    · rw [if_pos hat]
      have hxm := List.mem_of_getElem? hx
      by_cases hlt : x.s < e.s
      · rw [if_pos hlt]
        have hi := (List.getElem?_eq_some_iff.1 hx).1
        have hdrop : L.drop (ahead L e) = x :: L.drop (ahead L e + 1) := by
          rw [List.drop_eq_getElem_cons hi, (List.getElem?_eq_some_iff.1 hx).2]
        have hsplit : L = L.take (ahead L e) ++ (x :: L.drop (ahead L e + 1)) := by
          conv => lhs; rw [← List.take_append_drop (ahead L e) L, hdrop]
        have hp := rises_iff.1 hr
        rw [hsplit, List.pairwise_append, List.pairwise_cons] at hp
        obtain ⟨p1, ⟨p2, p3⟩, p4⟩ := hp
        have hex : ∀ z, eless x z → eless e z := fun z k => eat_eless (eat_symm hat) k
        have hxe : ∀ z, eless z x → eless z e := fun z k => eless_eat k hat
        refine ⟨?_, fun y => ?_⟩
        · rw [rises_iff, List.append_assoc, List.singleton_append, List.pairwise_append, List.pairwise_cons]
          refine ⟨p1, ⟨fun z hz => hex z (p2 z hz), p3⟩, fun a ha z hz => ?_⟩
          rcases List.mem_cons.1 hz with rfl | hz
          · exact hxe a (p4 a ha x (by simp))
          · exact p4 a ha z (List.mem_cons_of_mem _ hz)
        · constructor
          · intro hy
            rcases List.mem_append.1 hy with hy | hy
            · rcases List.mem_append.1 hy with hy | hy
              · exact .inr ⟨List.mem_of_mem_take hy, fun k => absurd k (eless_not_eat (hxe y (p4 y hy x (by simp))))⟩
              · rw [List.mem_singleton] at hy
                subst hy
                exact .inl ⟨rfl, fun z hz k => by rw [rises_one hr hz hxm (eat_trans k (eat_symm hat))]; exact hlt⟩
            · exact .inr ⟨List.mem_of_mem_drop hy, fun k => absurd (eat_symm k) (eless_not_eat (hex y (p2 y hy)))⟩
          · rintro (⟨rfl, _⟩ | ⟨hy, hk⟩)
            · simp
            · have hne : y ≠ x := fun e2 => by
                subst e2
                have := hk hat
                omega
              rw [hsplit] at hy
              rcases List.mem_append.1 hy with hy | hy
              · exact List.mem_append.2 (.inl (List.mem_append.2 (.inl hy)))
              · rcases List.mem_cons.1 hy with e2 | hy
                · exact absurd e2 hne
                · exact List.mem_append.2 (.inr hy)
      · rw [if_neg hlt]
        refine ⟨hr, fun y => ?_⟩
        constructor
        · intro hy
          exact .inr ⟨hy, fun k => by rw [rises_one hr hy hxm (eat_trans k (eat_symm hat))]; omega⟩
        · rintro (⟨rfl, h⟩ | ⟨hy, _⟩)
          · exact absurd (h x hxm hat) hlt
          · exact hy
    · rw [if_neg hat]
      exact hins (fun ⟨z, hz, k⟩ => by rw [hx] at hz; cases hz; exact hat k)

/-- What stands behind some puts. -/
def PutInv (all P : List Ent) : Prop := rises all ∧ (∀ y, y ∈ all ↔ y ∈ P ∧ ∀ z ∈ P, eat y z → z.s ≤ y.s) ∧ ∀ z ∈ P, ∃ x ∈ all, eat x z ∧ z.s ≤ x.s
theorem PutInv.nil : PutInv [] [] := ⟨rises_nil, fun y => by simp, fun z hz => by simp at hz⟩
theorem PutInv.step {all P : List Ent} {e : Ent} (h : PutInv all P) (hn : ∀ z ∈ P, eat z e → z.s ≠ e.s) : PutInv (rput all e) (P ++ [e]) := by
  obtain ⟨h1, h2, h3⟩ := h
  obtain ⟨r1, r2⟩ := rput_spec (e := e) h1
  have hPe : ∀ z, z ∈ P ++ [e] ↔ z ∈ P ∨ z = e := fun z => by rw [List.mem_append, List.mem_singleton]
  refine ⟨r1, fun y => ?_, fun z hz => ?_⟩
  · rw [r2 y]
    constructor
    · rintro (⟨rfl, k⟩ | ⟨hy, k⟩)
      · refine ⟨by simp, fun z hz hat => ?_⟩
        rcases (hPe z).1 hz with hz | rfl
        · obtain ⟨x, hx, q1, q2⟩ := h3 z hz
          have := k x hx (eat_trans q1 (eat_symm hat))
          omega
        · exact Int.le_refl _
      · obtain ⟨a, b⟩ := (h2 y).1 hy
        refine ⟨(hPe y).2 (.inl a), fun z hz hat => ?_⟩
        rcases (hPe z).1 hz with hz | rfl
        · exact b z hz hat
        · exact k hat
    · rintro ⟨hy, k⟩
      rcases (hPe y).1 hy with hy | rfl
      · exact .inr ⟨(h2 y).2 ⟨hy, fun z hz => k z ((hPe z).2 (.inl hz))⟩, fun hat => k e (by simp) hat⟩
      · refine .inl ⟨rfl, fun x hx hat => ?_⟩
        have hxP := ((h2 x).1 hx).1
        have := k x ((hPe x).2 (.inl hxP)) (eat_symm hat)
        have := hn x hxP hat
        omega
  · have hself : (∀ x ∈ all, eat x e → x.s < e.s) → e ∈ rput all e := fun k => (r2 e).2 (.inl ⟨rfl, k⟩)
    rcases (hPe z).1 hz with hz | rfl
    · obtain ⟨x, hx, q1, q2⟩ := h3 z hz
      by_cases k : eat x e → e.s ≤ x.s
      · exact ⟨x, (r2 x).2 (.inr ⟨hx, k⟩), q1, q2⟩
      · have hat : eat x e := Classical.byContradiction (fun n => k (fun a => absurd a n))
        have hlt : x.s < e.s := by
          rcases Int.lt_or_le x.s e.s with a | a
          · exact a
          · exact absurd (fun _ => a) k
        exact ⟨e, hself (fun x' hx' k' => by rw [rises_one h1 hx' hx (eat_trans k' (eat_symm hat))]; exact hlt), eat_trans (eat_symm hat) q1, by omega⟩
    · by_cases k : ∃ x ∈ all, eat x z ∧ z.s ≤ x.s
      · obtain ⟨x, hx, q1, q2⟩ := k
        exact ⟨x, (r2 x).2 (.inr ⟨hx, fun _ => q2⟩), q1, q2⟩
      · refine ⟨z, hself (fun x hx k' => ?_), eat_refl z, Int.le_refl _⟩
        rcases Int.lt_or_le x.s z.s with a | a
        · exact a
        · exact absurd ⟨x, hx, k', a⟩ k
theorem puts_inv : ∀ (Q all P : List Ent), PutInv all P → (P ++ Q).Pairwise (fun z e => eat z e → z.s ≠ e.s) → PutInv (Q.foldl rput all) (P ++ Q)
  | [], all, P, h, _ => by rw [List.append_nil]; exact h
  | e :: Q, all, P, h, hp => by
    have h2 : P ++ e :: Q = (P ++ [e]) ++ Q := by simp
    rw [List.foldl_cons, h2]
    rw [h2] at hp
    refine puts_inv Q _ (P ++ [e]) (h.step (fun z hz => ?_)) hp
    have := (List.pairwise_append.1 (List.pairwise_append.1 hp).1).2.2 z hz e (by simp)
    exact this

/-- All puts of lists that rise, of which no two have one word twice. -/
theorem puts_words {lists : List (List Ent)} (hr : ∀ L ∈ lists, rises L) (ht : ¬ Twice lists) : Words lists (lists.flatten.foldl rput []) := by
  have hp : lists.flatten.Pairwise (fun z e => eat z e → z.s ≠ e.s) := by
    rw [List.pairwise_flatten]
    refine ⟨fun L hL => (rises_iff.1 (hr L hL)).imp (fun k hat => absurd hat (eless_not_eat k)), ?_⟩
    rw [List.pairwise_iff_getElem]
    intro i j hi hj hij x hx y hy hat hs
    refine ht ⟨i, j, x, y, hi, hj, by omega, ?_, ?_, hat, hs⟩
    · unfold lx; simp only [List.getD, List.getElem?_eq_getElem hi, Option.getD_some]; exact hx
    · unfold lx; simp only [List.getD, List.getElem?_eq_getElem hj, Option.getD_some]; exact hy
  obtain ⟨h1, h2, h3⟩ := puts_inv lists.flatten [] [] PutInv.nil (by simpa using hp)
  simp only [List.nil_append] at h2 h3
  refine ⟨rises_iff.1 h1, fun e => ?_⟩
  rw [h2 e]
  constructor
  · rintro ⟨a, b⟩
    exact ⟨List.mem_flatten.1 a, fun L hL y hy hat => b y (List.mem_flatten.2 ⟨L, hL, hy⟩) hat⟩
  · rintro ⟨a, b⟩
    refine ⟨List.mem_flatten.2 a, fun z hz hat => ?_⟩
    obtain ⟨L, hL, hy⟩ := List.mem_flatten.1 hz
    exact b L hL z hy hat

/-- What the document's Merge answers of lists that rise. -/
theorem merge_docs {lists : List (List Ent)} (bottom : Bool) (hr : ∀ L ∈ lists, rises L) :
    (Twice lists ∧ (mergeM lists bottom).2 = 51) ∨ (¬ Twice lists ∧ mergeM lists bottom = ((lists.flatten.foldl rput []).filter (told bottom), 0)) := by
  rcases mergeM_law bottom hr with h | ⟨h1, words, h2, h3⟩
  · exact .inl h
  · refine .inr ⟨h1, ?_⟩
    rw [h2, Words.unique h3 (puts_words hr h1) (fun _ => Iff.rfl)]
theorem rput_length (L : List Ent) (e : Ent) : (rput L e).length ≤ L.length + 1 := by
  unfold rput
  split
  · rw [insL_length]; exact Nat.le_refl _
  · split
    · split
      · simp only [List.length_append, List.length_take, List.length_drop, List.length_singleton]
        omega
      · omega
    · rw [insL_length]; exact Nat.le_refl _
end Go.Proofs.Ytahdaccmokjgpaa

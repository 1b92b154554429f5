/-
  PLAIN LAW of a merger over lists that rise, whole: what Merge answers.
-/
import Derived.Test.YtahdaccmokjgpaaMrgY
namespace Go.Proofs.Ytahdaccmokjgpaa
open Go.RowKit ArgK
set_option linter.unusedVariables false

theorem stU_ok (lists : List (List Ent)) (u : Nat → Nat) (P : Nat → Bool) : MOk lists.length (stU lists u P) := by
  refine ⟨by simp [stU], by simp [stU], fun i e h => ?_⟩
  by_cases hi : i < lists.length
  · refine ⟨⟨lx lists i, 0, false, u i⟩, by simp [stU, hi], ?_⟩
    simp only [stU, List.getElem?_map, List.getElem?_range hi, Option.map_some, Option.some.injEq] at h
    split at h
    · cases h
    · obtain ⟨h0, h1⟩ := cur_some h
      have hl := (List.getElem?_eq_some_iff.1 h1).1
      refine ⟨?_, by show u i ≤ (lx lists i).length; omega, rfl⟩
      unfold Sst.last
      simp only
      rw [if_neg (by omega)]
      exact h1
  · simp only [stU] at h
    rw [List.getElem?_eq_none (by simp; omega)] at h
    cases h

/-- Is a word told? -/
def told (bottom : Bool) (e : Ent) : Bool := !bottom || !e.d

/-- What one answer may be. -/
def GoWay (lists : List (List Ent)) (bottom : Bool) (words : List Ent) (r : (Ent × Bool × Int) × Mst) : Prop :=
  (r.1 = (zeroE, false, 51) ∧ Twice lists) ∨
  (∃ (ws : List Ent) (u : Nat → Nat), r = ((zeroE, false, 0), stU lists u (fun _ => false)) ∧ UInv lists u (words ++ ws) ∧ (∀ i, i < lists.length → tk lists u i = lx lists i) ∧ ws.filter (told bottom) = []) ∨
  (∃ (ws : List Ent) (u : Nat → Nat) (b : Ent), r = ((b, true, 0), stU lists u (fun _ => false)) ∧ UInv lists u (words ++ ws ++ [b]) ∧ ws.filter (told bottom) = [] ∧ told bottom b = true ∧ (∀ i x, i < lists.length → x ∈ tk lists u i → ¬ eless b x))

theorem go_way {lists : List (List Ent)} {bottom : Bool} (hr : ∀ i, i < lists.length → rises (lx lists i)) : ∀ (f : Nat) (u : Nat → Nat) (words : List Ent), UInv lists u words → (stU lists u (fun _ => false)).left < f → GoWay lists bottom words (Mst.go bottom f (stU lists u (fun _ => false)))
  | 0, u, words, _, h => by omega
  | f + 1, u, words, hu, hf => by
    rw [go_step rfl]
    rcases hu.step hr with ⟨h1, h2⟩ | ⟨h1, h2, h3⟩ | ⟨u', b, h1, h2, h3⟩
    · rw [h1]
      right; left
      refine ⟨[], u, ?_, by rw [List.append_nil]; exact hu, h2, rfl⟩
      have hb : (stU lists u (fun _ => false)).bad = 0 := rfl
      simp [hb]
    · left
      rw [if_pos (by rw [h1]; decide), h1]
      exact ⟨rfl, h3⟩
    · have hlt := step_left (stU_ok lists u (fun _ => false)) rfl (by rw [h1])
      rw [h1] at hlt ⊢
      have hb : (stU lists u' (fun _ => false)).bad = 0 := rfl
      simp only [hb, ne_eq, not_true_eq_false, if_false, reduceCtorEq, false_or]
      by_cases hc : bottom = false ∨ b.d = false
      · rw [if_pos hc]
        right; right
        refine ⟨[], u', b, rfl, by rw [List.append_nil]; exact h2, rfl, ?_, h3⟩
        unfold told
        rcases hc with hc | hc <;> simp [hc]
      · rw [if_neg hc]
        have hd : told bottom b = false := by
          unfold told
          cases bottom
          · exact absurd (.inl rfl) hc
          · cases hbd : b.d
            · exact absurd (.inr hbd) hc
            · rfl
        rcases go_way hr f u' (words ++ [b]) h2 (by simp only at hlt; omega) with ⟨k1, k2⟩ | ⟨ws, v, k1, k2, k3, k4⟩ | ⟨ws, v, c, k1, k2, k3, k4, k5⟩
        · exact .inl ⟨k1, k2⟩
        · right; left
          exact ⟨b :: ws, v, k1, by simpa using k2, k3, by rw [List.filter_cons, hd]; exact k4⟩
        · right; right
          exact ⟨b :: ws, v, c, k1, by simpa using k2, by rw [List.filter_cons, hd]; exact k3, k4, k5⟩

theorem next_stU {lists : List (List Ent)} {bottom : Bool} {u : Nat → Nat} : (stU lists u (fun _ => false)).next bottom = Mst.go bottom ((stU lists u (fun _ => false)).left + 1) (stU lists u (fun _ => false)) := by
  unfold Mst.next
  rw [if_neg (fun h => by cases h.2)]

theorem run_way {lists : List (List Ent)} {bottom : Bool} (hr : ∀ i, i < lists.length → rises (lx lists i)) : ∀ (f : Nat) (m : Mst) (words : List Ent), GoWay lists bottom words (m.next bottom) → ((m.next bottom).1.2.1 = true → (m.next bottom).2.left < f) →
    (Twice lists ∧ (Mst.run bottom (f + 1) m).2 = 51) ∨ (∃ (rest : List Ent) (u : Nat → Nat), Mst.run bottom (f + 1) m = (rest.filter (told bottom), 0) ∧ UInv lists u (words ++ rest) ∧ (∀ i, i < lists.length → tk lists u i = lx lists i)) := by
  intro f
  induction f with
  | zero =>
    intro m words hw hl
    unfold Mst.run
    rcases hw with ⟨h1, h2⟩ | ⟨ws, u, h1, h2, h3, h4⟩ | ⟨ws, u, b, h1, h2, h3, h4, h5⟩
    · left
      rw [h1]
      exact ⟨h2, by simp⟩
    · right
      rw [h1]
      exact ⟨ws, u, by simp [h4], h2, h3⟩
    · have := hl (by rw [h1])
      omega
  | succ f ih =>
    intro m words hw hl
    rw [Mst.run]
    rcases hw with ⟨h1, h2⟩ | ⟨ws, u, h1, h2, h3, h4⟩ | ⟨ws, u, b, h1, h2, h3, h4, h5⟩
    · left
      rw [h1]
      exact ⟨h2, by simp⟩
    · right
      rw [h1]
      exact ⟨ws, u, by simp [h4], h2, h3⟩
    · have hlt := hl (by rw [h1])
      rw [h1] at hlt ⊢
      simp only [ne_eq, not_true_eq_false, if_false, Bool.true_eq_false] at hlt ⊢
      have hgw := go_way (bottom := bottom) hr ((stU lists u (fun _ => false)).left + 1) u _ h2 (Nat.lt_succ_self _)
      rw [← next_stU] at hgw
      have hnl := fun h => next_left (bottom := bottom) (stU_ok lists u (fun _ => false)) h
      rcases ih (stU lists u (fun _ => false)) (words ++ ws ++ [b]) hgw (fun h => by have := hnl h; omega) with ⟨k1, k2⟩ | ⟨rest, v, k1, k2, k3⟩
      · left
        exact ⟨k1, k2⟩
      · right
        refine ⟨ws ++ b :: rest, v, ?_, by simpa using k2, k3⟩
        rw [k1]
        simp [List.filter_append, h3, h4]

theorem map_range_lx {α : Type} (lists : List (List Ent)) (f : List Ent → α) : lists.map f = (List.range lists.length).map (fun i => f (lx lists i)) := by
  apply List.ext_getElem?
  intro j
  by_cases hj : j < lists.length
  · simp [hj, lx, List.getD]
  · rw [List.getElem?_eq_none (by simp; omega), List.getElem?_eq_none (by simp; omega)]

theorem begin_new {lists : List (List Ent)} (hr : ∀ i, i < lists.length → rises (lx lists i)) : (Mst.new lists).begin = stU lists (bumpL (fun _ => 0) (List.range lists.length)) (fun _ => false) := by
  have h1 : ({ Mst.new lists with begun := true } : Mst) = stU lists (fun _ => 0) (fun _ => false) := by
    unfold Mst.new stU
    simp only [Mst.mk.injEq, and_true]
    refine ⟨map_range_lx lists _, ?_⟩
    rw [map_range_lx lists]
    apply List.map_congr_left
    intro i _
    unfold cur
    simp
  unfold Mst.begin
  rw [h1]
  have hl : (Mst.new lists).S.length = lists.length := by simp [Mst.new]
  rw [hl, asks_stU _ _ _ List.nodup_range (fun i hi => by simpa using hi) hr]
  congr 1
  funext j
  split <;> rfl

theorem UInv.start (lists : List (List Ent)) : UInv lists (bumpL (fun _ => 0) (List.range lists.length)) [] := by
  have hu : ∀ i, i < lists.length → bumpL (fun _ => 0) (List.range lists.length) i = 1 := fun i hi => by unfold bumpL; simp [hi]
  have ht : ∀ i, i < lists.length → tk lists (bumpL (fun _ => 0) (List.range lists.length)) i = [] := fun i hi => by unfold tk; rw [hu i hi]; rfl
  refine ⟨fun i hi => by rw [hu i hi]; exact Nat.le_refl _, List.Pairwise.nil, fun e => ?_, fun i x j h hi hx => ?_, fun i j x y hi hj hij hx => ?_⟩
  · constructor
    · intro h; simp at h
    · rintro ⟨⟨i, hi, h⟩, _⟩
      rw [ht i hi] at h
      simp at h
  · rw [ht i hi] at hx
    simp at hx
  · rw [ht i hi] at hx
    simp at hx

theorem next_new {lists : List (List Ent)} (bottom : Bool) (hr : ∀ i, i < lists.length → rises (lx lists i)) : GoWay lists bottom [] ((Mst.new lists).next bottom) := by
  unfold Mst.next
  rw [if_pos ⟨rfl, rfl⟩, begin_new hr]
  exact go_way hr _ _ [] (UInv.start lists) (Nat.lt_succ_self _)

theorem rises_lx {lists : List (List Ent)} (h : ∀ L ∈ lists, rises L) (i : Nat) (hi : i < lists.length) : rises (lx lists i) := by
  unfold lx
  simp only [List.getD, List.getElem?_eq_getElem hi, Option.getD_some]
  exact h _ (List.getElem_mem hi)

/-- Words: the last word of each place, in order. -/
def Words (lists : List (List Ent)) (words : List Ent) : Prop := words.Pairwise eless ∧ ∀ e, e ∈ words ↔ (∃ L ∈ lists, e ∈ L) ∧ ∀ L ∈ lists, ∀ y ∈ L, eat e y → y.s ≤ e.s

theorem mem_lx {lists : List (List Ent)} {e : Ent} : (∃ i, i < lists.length ∧ e ∈ lx lists i) ↔ ∃ L ∈ lists, e ∈ L := by
  constructor
  · rintro ⟨i, hi, h⟩
    unfold lx at h
    simp only [List.getD, List.getElem?_eq_getElem hi, Option.getD_some] at h
    exact ⟨_, List.getElem_mem hi, h⟩
  · rintro ⟨L, hL, h⟩
    obtain ⟨i, hi, rfl⟩ := List.getElem_of_mem hL
    exact ⟨i, hi, by unfold lx; simp only [List.getD, List.getElem?_eq_getElem hi, Option.getD_some]; exact h⟩

/-- What Merge answers. -/
theorem mergeM_law {lists : List (List Ent)} (bottom : Bool) (h : ∀ L ∈ lists, rises L) :
    (Twice lists ∧ (mergeM lists bottom).2 = 51) ∨ (¬ Twice lists ∧ ∃ words, mergeM lists bottom = (words.filter (told bottom), 0) ∧ Words lists words) := by
  have hr := rises_lx h
  unfold mergeM
  rcases run_way hr _ (Mst.new lists) [] (next_new bottom hr) (fun h => next_left (new_ok lists) h) with h1 | ⟨rest, u, h1, h2, h3⟩
  · exact .inl h1
  · right
    rw [List.nil_append] at h2
    refine ⟨?_, rest, h1, h2.ord, fun e => ?_⟩
    · rintro ⟨i, j, x, y, hi, hj, hij, hx, hy, hxy, hs⟩
      rw [← h3 i hi] at hx
      rw [← h3 j hj] at hy
      exact h2.ne i j x y hi hj hij hx hy hxy hs
    · rw [h2.mem e]
      constructor
      · rintro ⟨⟨i, hi, k⟩, k2⟩
        rw [h3 i hi] at k
        refine ⟨mem_lx.1 ⟨i, hi, k⟩, fun L hL y hy hat => ?_⟩
        obtain ⟨j, hj, q⟩ := mem_lx.2 ⟨L, hL, hy⟩
        exact k2 j y hj q hat
      · rintro ⟨k, k2⟩
        obtain ⟨i, hi, q⟩ := mem_lx.2 k
        refine ⟨⟨i, hi, by rw [h3 i hi]; exact q⟩, fun j y hj hy hat => ?_⟩
        obtain ⟨L, hL, q2⟩ := mem_lx.1 ⟨j, hj, hy⟩
        exact k2 L hL y q2 hat

/-- Lists that rise and hold the same entries are the same. -/
theorem eless_unique : ∀ {A B : List Ent}, A.Pairwise eless → B.Pairwise eless → (∀ e, e ∈ A ↔ e ∈ B) → A = B
  | [], [], _, _, _ => rfl
  | [], b :: B, _, _, h => absurd ((h b).2 (by simp)) (by simp)
  | a :: A, [], _, _, h => absurd ((h a).1 (by simp)) (by simp)
  | a :: A, b :: B, hA, hB, h => by
    obtain ⟨ha, hA2⟩ := List.pairwise_cons.1 hA
    obtain ⟨hb, hB2⟩ := List.pairwise_cons.1 hB
    have e : a = b := by
      rcases List.mem_cons.1 ((h a).1 (by simp)) with e | h1
      · exact e
      · rcases List.mem_cons.1 ((h b).2 (by simp)) with e | h2
        · exact e.symm
        · exact absurd (ha b h2) (eless_asymm (hb a h1))
    subst e
    congr 1
    refine eless_unique hA2 hB2 (fun x => ?_)
    constructor
    · intro hx
      rcases List.mem_cons.1 ((h x).1 (List.mem_cons_of_mem _ hx)) with e | h1
      · subst e; exact absurd (ha x hx) (eless_irrefl x)
      · exact h1
    · intro hx
      rcases List.mem_cons.1 ((h x).2 (List.mem_cons_of_mem _ hx)) with e | h1
      · subst e; exact absurd (hb x hx) (eless_irrefl x)
      · exact h1

theorem Words.unique {l1 l2 : List (List Ent)} {A B : List Ent} (h1 : Words l1 A) (h2 : Words l2 B) (h : ∀ e, (∃ L ∈ l1, e ∈ L) ↔ (∃ L ∈ l2, e ∈ L)) : A = B := by
  refine eless_unique h1.1 h2.1 (fun e => ?_)
  rw [h1.2 e, h2.2 e, h e]
  constructor
  · rintro ⟨a, b⟩
    refine ⟨a, fun L hL y hy hat => ?_⟩
    obtain ⟨L', hL', hy'⟩ := (h y).2 ⟨L, hL, hy⟩
    exact b L' hL' y hy' hat
  · rintro ⟨a, b⟩
    refine ⟨a, fun L hL y hy hat => ?_⟩
    obtain ⟨L', hL', hy'⟩ := (h y).1 ⟨L, hL, hy⟩
    exact b L' hL' y hy' hat
end Go.Proofs.Ytahdaccmokjgpaa

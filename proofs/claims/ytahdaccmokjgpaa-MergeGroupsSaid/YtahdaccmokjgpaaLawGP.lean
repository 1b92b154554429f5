/-
  PLAIN: what Merge answers to lists merged in two groups first; lists turned round.
-/
import Derived.Test.YtahdaccmokjgpaaLawMU
namespace Go.Proofs.Ytahdaccmokjgpaa
open Go.RowKit ArgK
set_option linter.unusedVariables false

theorem ex_max : ∀ (l : List Ent), l ≠ [] → ∃ e ∈ l, ∀ z ∈ l, z.s ≤ e.s
  | [], h => absurd rfl h
  | [x], _ => ⟨x, by simp, by simp⟩
  | x :: y :: l, _ => by
    obtain ⟨e, he, hm⟩ := ex_max (y :: l) (by simp)
    by_cases h : e.s ≤ x.s
    · refine ⟨x, by simp, fun z hz => ?_⟩
      rcases List.mem_cons.1 hz with rfl | hz
      · exact Int.le_refl _
      · have := hm z hz
        omega
    · refine ⟨e, List.mem_cons_of_mem _ he, fun z hz => ?_⟩
      rcases List.mem_cons.1 hz with rfl | hz
      · omega
      · exact hm z hz

theorem words_cover {lists : List (List Ent)} {ws L : List Ent} {y : Ent} (h : Words lists ws) (hL : L ∈ lists) (hy : y ∈ L) : ∃ e ∈ ws, eat y e ∧ y.s ≤ e.s := by
  have hyf : y ∈ lists.flatten.filter (fun z => decide (eat y z)) := by
    rw [List.mem_filter]
    exact ⟨List.mem_flatten.2 ⟨L, hL, hy⟩, by simp [eat]⟩
  obtain ⟨e, he, hm⟩ := ex_max _ (List.ne_nil_of_mem hyf)
  rw [List.mem_filter] at he
  obtain ⟨he1, he2⟩ := he
  have hye : eat y e := by simpa using he2
  refine ⟨e, (h.2 e).2 ⟨?_, fun M hM z hz hat => ?_⟩, hye, hm y hyf⟩
  · obtain ⟨K, hK, hk⟩ := List.mem_flatten.1 he1
    exact ⟨K, hK, hk⟩
  · exact hm z (List.mem_filter.2 ⟨List.mem_flatten.2 ⟨M, hM, hz⟩, by simpa using eat_trans hye hat⟩)

theorem words_parts {A B : List (List Ent)} {wa wb W : List Ent} (ha : Words A wa) (hb : Words B wb) (h : Words (A ++ B) W) : Words [wa, wb] W := by
  refine ⟨h.1, fun e => ?_⟩
  rw [h.2 e]
  constructor
  · rintro ⟨⟨L, hL, he⟩, hm⟩
    have key : ∀ M ∈ [wa, wb], ∀ y ∈ M, eat e y → y.s ≤ e.s := by
      intro M hM y hy hat
      simp at hM
      rcases hM with rfl | rfl
      · obtain ⟨⟨K, hK, hyK⟩, _⟩ := (ha.2 y).1 hy
        exact hm K (List.mem_append_left _ hK) y hyK hat
      · obtain ⟨⟨K, hK, hyK⟩, _⟩ := (hb.2 y).1 hy
        exact hm K (List.mem_append_right _ hK) y hyK hat
    rcases List.mem_append.1 hL with hL | hL
    · exact ⟨⟨wa, by simp, (ha.2 e).2 ⟨⟨L, hL, he⟩, fun M hM => hm M (List.mem_append_left _ hM)⟩⟩, key⟩
    · exact ⟨⟨wb, by simp, (hb.2 e).2 ⟨⟨L, hL, he⟩, fun M hM => hm M (List.mem_append_right _ hM)⟩⟩, key⟩
  · rintro ⟨⟨M, hM, he⟩, hm⟩
    have key : ∀ L ∈ A ++ B, ∀ y ∈ L, eat e y → y.s ≤ e.s := by
      intro L hL y hy hat
      rcases List.mem_append.1 hL with hL | hL
      · obtain ⟨z, hz, h1, h2⟩ := words_cover ha hL hy
        have := hm wa (by simp) z hz (eat_trans hat h1)
        omega
      · obtain ⟨z, hz, h1, h2⟩ := words_cover hb hL hy
        have := hm wb (by simp) z hz (eat_trans hat h1)
        omega
    simp at hM
    rcases hM with rfl | rfl
    · obtain ⟨⟨K, hK, hyK⟩, _⟩ := (ha.2 e).1 he
      exact ⟨⟨K, List.mem_append_left _ hK, hyK⟩, key⟩
    · obtain ⟨⟨K, hK, hyK⟩, _⟩ := (hb.2 e).1 he
      exact ⟨⟨K, List.mem_append_right _ hK, hyK⟩, key⟩

theorem not_twice_flat {lists : List (List Ent)} (hf : lists.flatten.Pairwise (fun a b => ¬ (eat a b ∧ a.s = b.s))) : ¬ Twice lists := by
  rw [List.pairwise_flatten] at hf
  have hp := List.pairwise_iff_getElem.1 hf.2
  rintro ⟨i, j, x, y, hi, hj, hij, hx, hy, he, hs⟩
  unfold lx at hx hy
  simp only [List.getD, List.getElem?_eq_getElem hi, List.getElem?_eq_getElem hj, Option.getD_some] at hx hy
  rcases Nat.lt_or_gt_of_ne hij with h | h
  · exact hp i j hi hj h x hx y hy ⟨he, hs⟩
  · exact hp j i hj hi h y hy x hx ⟨eat_symm he, hs.symm⟩

theorem part_words {A : List (List Ent)} (hr : ∀ L ∈ A, rises L) (hf : A.flatten.Pairwise (fun a b => ¬ (eat a b ∧ a.s = b.s))) : ∃ wa, mergeM A false = (wa, 0) ∧ Words A wa := by
  rcases mergeM_law false hr with ⟨h, _⟩ | ⟨_, ws, h, h2⟩
  · exact absurd h (not_twice_flat hf)
  · rw [List.filter_eq_self.2 (fun a _ => (rfl : told false a = true))] at h
    exact ⟨ws, h, h2⟩

theorem merge_parts {lists : List (List Ent)} {all : List Ent} (bottom : Bool) (hd : Dist all) (hD : Dealt lists all) (hl : all.length ≤ 60) (k : Nat) :
    ∃ wa wb, mergeM (lists.take k) false = (wa, 0) ∧ mergeM (lists.drop k) false = (wb, 0) ∧ rises wa ∧ rises wb ∧ (∀ e ∈ wa, e ∈ all) ∧ (∀ e ∈ wb, e ∈ all) ∧ wa.length ≤ 121 ∧ wb.length ≤ 121 ∧ mergeM [wa, wb] bottom = (lastG all bottom [] all, 0) := by
  have hf := dist_flat hd hD.2.1
  have e : lists.take k ++ lists.drop k = lists := List.take_append_drop k lists
  have hsum : (lists.take k).flatten.length + (lists.drop k).flatten.length = all.length := by
    rw [← List.length_append, ← List.flatten_append, e]
    exact hD.2.1.length_eq
  rw [← e, List.flatten_append, List.pairwise_append] at hf
  obtain ⟨wa, ha1, ha2⟩ := part_words (A := lists.take k) (fun L hL => hD.1 L (List.mem_of_mem_take hL)) hf.1
  obtain ⟨wb, hb1, hb2⟩ := part_words (A := lists.drop k) (fun L hL => hD.1 L (List.mem_of_mem_drop hL)) hf.2.1
  rcases mergeM_law true hD.1 with ⟨h, _⟩ | ⟨_, W, _, hW⟩
  · exact absurd h (not_twice hd hD)
  have hma : ∀ e ∈ wa, e ∈ (lists.take k).flatten := fun e he => by
    obtain ⟨⟨K, hK, hk⟩, _⟩ := (ha2.2 e).1 he
    exact List.mem_flatten.2 ⟨K, hK, hk⟩
  have hmb : ∀ e ∈ wb, e ∈ (lists.drop k).flatten := fun e he => by
    obtain ⟨⟨K, hK, hk⟩, _⟩ := (hb2.2 e).1 he
    exact List.mem_flatten.2 ⟨K, hK, hk⟩
  have l1 := mergeM_length (lists.take k) false
  have l2 := mergeM_length (lists.drop k) false
  rw [ha1] at l1
  rw [hb1] at l2
  have hll := hD.2.2
  simp only [List.length_take, List.length_drop] at l1 l2
  refine ⟨wa, wb, ha1, hb1, rises_iff.2 ha2.1, rises_iff.2 hb2.1, fun e he => ?_, fun e he => ?_, by omega, by omega, ?_⟩
  · obtain ⟨K, hK, hk⟩ := List.mem_flatten.1 (hma e he)
    exact hD.mem (List.mem_of_mem_take hK) hk
  · obtain ⟨K, hK, hk⟩ := List.mem_flatten.1 (hmb e he)
    exact hD.mem (List.mem_of_mem_drop hK) hk
  · rw [merge_words bottom (rises_two ha2.1 hb2.1) (twice_two (fun x hx y hy hat hs => hf.2.2 x (hma x hx) y (hmb y hy) ⟨hat, hs⟩)) (words_parts ha2 hb2 (by rw [e]; exact hW)), ← last_words bottom hd hD hW]

theorem Dealt.rev {lists : List (List Ent)} {all : List Ent} (h : Dealt lists all) : Dealt lists.reverse all :=
  ⟨fun L hL => h.1 L (List.mem_reverse.1 hL), (List.Perm.flatten (List.reverse_perm lists)).trans h.2.1, by rw [List.length_reverse]; exact h.2.2⟩

/-- Merge, of lists in memory whose merge is known. -/
theorem merge_known {W : World} {p : Option Addr} {n c : Nat} {lists : List (List Ent)} {R : List Ent} {bottom : Bool} (hn : lists.length = n) (h1024 : n ≤ 1024) (hL : LLs W W.heap.size p lists) (hz : ∀ L ∈ lists, L.length ≤ 4398046511104) (hr : ∀ L ∈ lists, rises L) (hm : mergeM lists bottom = (R, 0)) (hR : R.length ≤ 2199023255552) (hwf : ∀ L ∈ lists, ∀ e ∈ L, (Lit.int .i64 e.s).wf = true) :
    Calls Try.prog 22 #[.slice p n c, .bool bottom] W (fun e w' => ∃ q c, e = .returned (.tuple #[.slice q R.length c, .int .i64 0]) ∧ Below W.heap.size W w' ∧ w'.ownsRow W.heap.size 24 5 (.slice q R.length c) R.length (encE R)) := by
  refine (Merge_calls (n := n) (c := c) bottom hn h1024 hL hz (by rw [hm]; exact hR) (swf_new hwf)).mono (fun e w' h => ?_)
  have h2 := h.1 hr
  rw [hm] at h2
  obtain ⟨v, e1, hb, ho, _⟩ := h2
  have ho := ho rfl
  obtain ⟨q, c', rfl, _⟩ := own_rd ho
  exact ⟨q, c', e1, hb, ho⟩

theorem LLs.take {W : World} {B : Nat} {p : Option Addr} {lists : List (List Ent)} (h : LLs W B p lists) (k : Nat) : LLs W B p (lists.take k) := by
  intro i L hL
  rw [List.getElem?_take] at hL
  split at hL
  · exact h i L hL
  · cases hL

theorem LLs.nil {W : World} {B : Nat} {p : Option Addr} : LLs W B p [] := fun i L hL => by simp at hL

theorem LLs.drop {W : World} {B g : Nat} {lists : List (List Ent)} (h : LLs W B (some ⟨g, 0, none⟩) lists) (k : Nat) : LLs W B (some ⟨g, k, none⟩) (lists.drop k) := by
  intro i L hL
  rw [List.getElem?_drop] at hL
  obtain ⟨a, q, c, e, h1, h2, h3, h4⟩ := h (k + i) L hL
  cases e
  refine ⟨⟨g, k, none⟩, q, c, rfl, h1, ?_, h3, h4⟩
  rw [show (⟨g, k, none⟩ : Addr).add i = ⟨g, k + i, none⟩ by unfold Addr.add; split <;> simp_all]
  rw [show (⟨g, 0, none⟩ : Addr).add (k + i) = ⟨g, k + i, none⟩ by unfold Addr.add; split <;> simp_all] at h2
  exact h2
end Go.Proofs.Ytahdaccmokjgpaa

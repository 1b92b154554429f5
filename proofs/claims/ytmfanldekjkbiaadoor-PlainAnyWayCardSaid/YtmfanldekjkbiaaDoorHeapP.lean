/-
  PLAIN LAWS: heaps of hits, the last one on top.
-/
import Derived.Test.YtmfanldekjkbiaaDoorHvP
namespace Go.Proofs.YtmfanldekjkbiaaDoor
open Go.RowKit
set_option linter.unusedVariables false

/-- Element j. -/
def hd (L : List Hv) (j : Nat) : Hv := L.getD j default

theorem hd_get {L : List Hv} {j : Nat} (hj : j < L.length) : L[j]? = some (hd L j) := by
  simp [hd, List.getD, hj]

theorem hd_of {L : List Hv} {j : Nat} {x : Hv} (h : L[j]? = some x) : hd L j = x := by simp [hd, List.getD, h]

theorem hd_set {L : List Hv} {i : Nat} (hi : i < L.length) (x : Hv) (j : Nat) : hd (L.set i x) j = if j = i then x else hd L j := by
  unfold hd
  simp only [List.getD]
  by_cases h : j = i
  · subst h; simp [hi]
  · rw [if_neg h, List.getElem?_set_ne (fun e => h e.symm)]

/-- Two elements exchanged. -/
def swp (L : List Hv) (i j : Nat) : List Hv := (L.set i (hd L j)).set j (hd L i)

theorem swp_length (L : List Hv) (i j : Nat) : (swp L i j).length = L.length := by simp [swp]

theorem hd_swp {L : List Hv} {i j : Nat} (hi : i < L.length) (hj : j < L.length) (k : Nat) : hd (swp L i j) k = if k = j then hd L i else if k = i then hd L j else hd L k := by
  unfold swp
  rw [hd_set (by simp; exact hj), hd_set hi]

theorem swp_perm {L : List Hv} {i j : Nat} (hi : i < L.length) (hj : j < L.length) : (swp L i j).Perm L := by
  have e1 : hd L j = L[j] := hd_of (List.getElem?_eq_getElem hj)
  have e2 : hd L i = L[i] := hd_of (List.getElem?_eq_getElem hi)
  unfold swp
  rw [e1, e2]
  exact List.set_set_perm hi hj

/-- A heap: no one stands behind the one above it. -/
def HeapH (L : List Hv) : Prop := ∀ j, 0 < j → j < L.length → ¬ hless (hd L ((j - 1) / 2)) (hd L j)

/-- A heap but that element i may stand too low. -/
def HeapUp (L : List Hv) (i : Nat) : Prop :=
  (∀ j, 0 < j → j < L.length → j ≠ i → ¬ hless (hd L ((j - 1) / 2)) (hd L j)) ∧
  (∀ j, 0 < j → j < L.length → (j - 1) / 2 = i → 0 < i → ¬ hless (hd L ((i - 1) / 2)) (hd L j))

/-- A heap but that element i may stand too high. -/
def HeapDn (L : List Hv) (i : Nat) : Prop :=
  (∀ j, 0 < j → j < L.length → (j - 1) / 2 ≠ i → ¬ hless (hd L ((j - 1) / 2)) (hd L j)) ∧
  (∀ j, 0 < j → j < L.length → (j - 1) / 2 = i → 0 < i → ¬ hless (hd L ((i - 1) / 2)) (hd L j))

theorem hd_snoc_lt {L : List Hv} {h : Hv} {j : Nat} (hj : j < L.length) : hd (L ++ [h]) j = hd L j := by
  unfold hd
  simp only [List.getD]
  rw [List.getElem?_append_left hj]

theorem heapUp_snoc {L : List Hv} (H : HeapH L) (h : Hv) : HeapUp (L ++ [h]) L.length := by
  constructor
  · intro j h0 hj hn
    rw [List.length_append, List.length_singleton] at hj
    rw [hd_snoc_lt (by omega), hd_snoc_lt (by omega)]
    exact H j h0 (by omega)
  · intro j h0 hj he
    rw [List.length_append, List.length_singleton] at hj
    omega

theorem heapUp_stop {L : List Hv} {i : Nat} (H : HeapUp L i) (h : i = 0 ∨ ¬ hless (hd L ((i - 1) / 2)) (hd L i)) : HeapH L := by
  intro j h0 hj
  by_cases e : j = i
  · subst e
    rcases h with h | h
    · omega
    · exact h
  · exact H.1 j h0 hj e

theorem heapUp_step {L : List Hv} {i : Nat} (H : HeapUp L i) (hi : i < L.length) (h0 : 0 < i) (h : hless (hd L ((i - 1) / 2)) (hd L i)) : HeapUp (swp L i ((i - 1) / 2)) ((i - 1) / 2) := by
  obtain ⟨p, hp⟩ : ∃ p, (i - 1) / 2 = p := ⟨_, rfl⟩
  rw [hp] at h ⊢
  have hpl : p < L.length := by omega
  obtain ⟨H1, H2⟩ := H
  constructor
  · intro j j0 hj hne
    rw [swp_length] at hj
    rw [hd_swp hi hpl, hd_swp hi hpl]
    by_cases e : j = i
    · subst e
      rw [hp, if_pos rfl, if_neg (by omega), if_pos rfl]
      exact hless_asymm h
    · rw [if_neg (show ¬ j = p from hne), if_neg e]
      by_cases e2 : (j - 1) / 2 = p
      · rw [if_pos e2]
        have := H1 j j0 hj e
        rw [e2] at this
        exact nless_trans (hless_asymm h) this
      · rw [if_neg e2]
        by_cases e3 : (j - 1) / 2 = i
        · rw [if_pos e3]
          have := H2 j j0 hj e3 h0
          rw [hp] at this
          exact this
        · rw [if_neg e3]
          exact H1 j j0 hj e
  · intro j j0 hj hpar hp0
    rw [swp_length] at hj
    rw [hd_swp hi hpl, hd_swp hi hpl, if_neg (by omega), if_neg (by omega), if_neg (show ¬ j = p by omega)]
    have k1 := H1 p hp0 hpl (by omega)
    by_cases e : j = i
    · rw [if_pos e]
      exact k1
    · rw [if_neg e]
      have k2 := H1 j j0 hj e
      rw [hpar] at k2
      exact nless_trans k1 k2

theorem heapDn_stop {L : List Hv} {i : Nat} (H : HeapDn L i) (h : ∀ j, 0 < j → j < L.length → (j - 1) / 2 = i → ¬ hless (hd L i) (hd L j)) : HeapH L := by
  intro j h0 hj
  by_cases e : (j - 1) / 2 = i
  · rw [e]; exact h j h0 hj e
  · exact H.1 j h0 hj e

theorem heapDn_step {L : List Hv} {i c : Nat} (H : HeapDn L i) (hc : c < L.length) (c0 : 0 < c) (hp : (c - 1) / 2 = i) (hl : hless (hd L i) (hd L c)) (hmax : ∀ j, 0 < j → j < L.length → (j - 1) / 2 = i → ¬ hless (hd L c) (hd L j)) : HeapDn (swp L i c) c := by
  obtain ⟨H1, H2⟩ := H
  have hi : i < L.length := by omega
  have hic : i ≠ c := by omega
  constructor
  · intro j j0 hj hne
    rw [swp_length] at hj
    rw [hd_swp hi hc, hd_swp hi hc, if_neg hne]
    by_cases e : (j - 1) / 2 = i
    · rw [if_pos e]
      by_cases e2 : j = c
      · rw [if_pos e2]
        exact hless_asymm hl
      · rw [if_neg e2, if_neg (by omega)]
        exact hmax j j0 hj e
    · rw [if_neg e]
      by_cases e2 : j = c
      · subst e2; exact absurd hp e
      · rw [if_neg e2]
        by_cases e3 : j = i
        · subst e3
          rw [if_pos rfl]
          exact H2 c c0 hc hp j0
        · rw [if_neg e3]
          exact H1 j j0 hj e
  · intro j j0 hj hpar hc0
    rw [swp_length] at hj
    rw [hd_swp hi hc, hd_swp hi hc, if_neg (by omega), hp, if_pos rfl, if_neg (by omega), if_neg (by omega)]
    have := H1 j j0 hj (by omega)
    rw [hpar] at this
    exact this

/-- What stands on top stands behind no other's place. -/
theorem heap_top {L : List Hv} (H : HeapH L) : ∀ j, j < L.length → ¬ hless (hd L 0) (hd L j) := by
  intro j
  induction j using Nat.strongRecOn with
  | ind j ih =>
    intro hj
    by_cases h0 : j = 0
    · subst h0; exact hless_irrefl _
    · exact nless_trans (ih ((j - 1) / 2) (by omega) (by omega)) (H j (by omega) hj)

theorem heap_top_mem {L : List Hv} (H : HeapH L) {x : Hv} (hx : x ∈ L) : ¬ hless (hd L 0) x := by
  obtain ⟨j, hj, rfl⟩ := List.getElem_of_mem hx
  have := heap_top H j hj
  rw [hd_of (List.getElem?_eq_getElem hj)] at this
  exact this

/-- The top taken away, the last one laid there. -/
def dropT (L : List Hv) : List Hv := (L.set 0 (hd L (L.length - 1))).take (L.length - 1)

theorem dropT_length (L : List Hv) : (dropT L).length = L.length - 1 := by simp [dropT]

theorem hd_dropT {L : List Hv} (h0 : 0 < L.length) {j : Nat} (hj : j < L.length - 1) : hd (dropT L) j = if j = 0 then hd L (L.length - 1) else hd L j := by
  rw [← hd_set h0]
  unfold dropT hd
  simp only [List.getD]
  rw [List.getElem?_take_of_lt hj]

theorem heapDn_dropT {L : List Hv} (H : HeapH L) : HeapDn (dropT L) 0 := by
  constructor
  · intro j j0 hj hne
    rw [dropT_length] at hj
    rw [hd_dropT (by omega) (by omega), hd_dropT (by omega) (by omega), if_neg hne, if_neg (by omega)]
    exact H j j0 (by omega)
  · intro j _ _ _ h
    exact absurd h (by omega)

theorem dropT_perm {L : List Hv} (h0 : 0 < L.length) : (hd L 0 :: dropT L).Perm L := by
  match L, h0 with
  | [x], _ => simp [dropT, hd]
  | x :: y :: L, _ =>
    have e : dropT (x :: y :: L) = hd (x :: y :: L) (L.length + 1) :: (y :: L).take L.length := by
      unfold dropT
      show ((x :: y :: L).set 0 _).take (L.length + 1) = _
      rw [List.set_cons_zero, List.take_succ_cons]
      rfl
    have e2 : hd (x :: y :: L) (L.length + 1) = (y :: L).getLast (by simp) := by
      unfold hd
      simp only [List.getD, List.getElem?_cons_succ]
      rw [List.getLast_eq_getElem, List.getElem?_eq_getElem (by simp)]
      simp
    have e3 : (y :: L).take L.length = (y :: L).dropLast := by rw [List.dropLast_eq_take]; rfl
    rw [e, e2, e3]
    show (x :: _).Perm _
    refine List.Perm.cons x ?_
    have := List.dropLast_concat_getLast (l := y :: L) (by simp)
    have p : ((y :: L).dropLast ++ [(y :: L).getLast (by simp)]).Perm ((y :: L).getLast (by simp) :: (y :: L).dropLast) := List.perm_append_singleton _ _
    rw [this] at p
    exact p.symm
end Go.Proofs.YtmfanldekjkbiaaDoor

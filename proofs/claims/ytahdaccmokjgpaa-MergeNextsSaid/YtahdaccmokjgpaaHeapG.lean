/-
  PLAIN LAWS: heaps of whatever order: r x y says that x must not stand above y.
-/
import Derived.Test.YtahdaccmokjgpaaProg
namespace Go.Proofs.Ytahdaccmokjgpaa

set_option linter.unusedVariables false
set_option linter.unusedSectionVars false

/-- What an order of a heap must keep. -/
structure OrdG {α : Type} (r : α → α → Prop) : Prop where
  irrefl : ∀ x, ¬ r x x
  asymm : ∀ {x y}, r x y → ¬ r y x
  ntrans : ∀ {x y z}, ¬ r x y → ¬ r y z → ¬ r x z

section
variable {α : Type} [Inhabited α] {r : α → α → Prop}

/-- Element j. -/
def hdG (L : List α) (j : Nat) : α := L.getD j default

theorem hdG_get {L : List α} {j : Nat} (hj : j < L.length) : L[j]? = some (hdG L j) := by
  simp [hdG, List.getD, hj]

theorem hdG_of {L : List α} {j : Nat} {x : α} (h : L[j]? = some x) : hdG L j = x := by simp [hdG, List.getD, h]

theorem hdG_set {L : List α} {i : Nat} (hi : i < L.length) (x : α) (j : Nat) : hdG (L.set i x) j = if j = i then x else hdG L j := by
  unfold hdG
  simp only [List.getD]
  by_cases h : j = i
  · subst h; simp [hi]
  · rw [if_neg h, List.getElem?_set_ne (fun e => h e.symm)]

/-- Two elements exchanged. -/
def swpG (L : List α) (i j : Nat) : List α := (L.set i (hdG L j)).set j (hdG L i)

theorem swpG_length (L : List α) (i j : Nat) : (swpG L i j).length = L.length := by simp [swpG]

theorem hdG_swp {L : List α} {i j : Nat} (hi : i < L.length) (hj : j < L.length) (k : Nat) : hdG (swpG L i j) k = if k = j then hdG L i else if k = i then hdG L j else hdG L k := by
  unfold swpG
  rw [hdG_set (by simp; exact hj), hdG_set hi]

theorem swpG_perm {L : List α} {i j : Nat} (hi : i < L.length) (hj : j < L.length) : (swpG L i j).Perm L := by
  have e1 : hdG L j = L[j] := hdG_of (List.getElem?_eq_getElem hj)
  have e2 : hdG L i = L[i] := hdG_of (List.getElem?_eq_getElem hi)
  unfold swpG
  rw [e1, e2]
  exact List.set_set_perm hi hj

/-- A heap: no one stands behind the one above it. -/
def HeapG (r : α → α → Prop) (L : List α) : Prop := ∀ j, 0 < j → j < L.length → ¬ r (hdG L ((j - 1) / 2)) (hdG L j)

/-- A heap but that element i may stand too low. -/
def UpG (r : α → α → Prop) (L : List α) (i : Nat) : Prop :=
  (∀ j, 0 < j → j < L.length → j ≠ i → ¬ r (hdG L ((j - 1) / 2)) (hdG L j)) ∧
  (∀ j, 0 < j → j < L.length → (j - 1) / 2 = i → 0 < i → ¬ r (hdG L ((i - 1) / 2)) (hdG L j))

/-- A heap but that element i may stand too high. -/
def DnG (r : α → α → Prop) (L : List α) (i : Nat) : Prop :=
  (∀ j, 0 < j → j < L.length → (j - 1) / 2 ≠ i → ¬ r (hdG L ((j - 1) / 2)) (hdG L j)) ∧
  (∀ j, 0 < j → j < L.length → (j - 1) / 2 = i → 0 < i → ¬ r (hdG L ((i - 1) / 2)) (hdG L j))

theorem hdG_snoc_lt {L : List α} {h : α} {j : Nat} (hj : j < L.length) : hdG (L ++ [h]) j = hdG L j := by
  unfold hdG
  simp only [List.getD]
  rw [List.getElem?_append_left hj]

theorem upG_snoc {L : List α} (H : HeapG r L) (h : α) : UpG r (L ++ [h]) L.length := by
  constructor
  · intro j h0 hj hn
    rw [List.length_append, List.length_singleton] at hj
    rw [hdG_snoc_lt (by omega), hdG_snoc_lt (by omega)]
    exact H j h0 (by omega)
  · intro j h0 hj he
    rw [List.length_append, List.length_singleton] at hj
    omega

theorem upG_stop {L : List α} {i : Nat} (H : UpG r L i) (h : i = 0 ∨ ¬ r (hdG L ((i - 1) / 2)) (hdG L i)) : HeapG r L := by
  intro j h0 hj
  by_cases e : j = i
  · subst e
    rcases h with h | h
    · omega
    · exact h
  · exact H.1 j h0 hj e

theorem upG_step (O : OrdG r) {L : List α} {i : Nat} (H : UpG r L i) (hi : i < L.length) (h0 : 0 < i) (h : r (hdG L ((i - 1) / 2)) (hdG L i)) : UpG r (swpG L i ((i - 1) / 2)) ((i - 1) / 2) := by
  obtain ⟨p, hp⟩ : ∃ p, (i - 1) / 2 = p := ⟨_, rfl⟩
  rw [hp] at h ⊢
  have hpl : p < L.length := by omega
  obtain ⟨H1, H2⟩ := H
  constructor
  · intro j j0 hj hne
    rw [swpG_length] at hj
    rw [hdG_swp hi hpl, hdG_swp hi hpl]
    by_cases e : j = i
    · subst e
      rw [hp, if_pos rfl, if_neg (by omega), if_pos rfl]
      exact O.asymm h
    · rw [if_neg (show ¬ j = p from hne), if_neg e]
      by_cases e2 : (j - 1) / 2 = p
      · rw [if_pos e2]
        have := H1 j j0 hj e
        rw [e2] at this
        exact O.ntrans (O.asymm h) this
      · rw [if_neg e2]
        by_cases e3 : (j - 1) / 2 = i
        · rw [if_pos e3]
          have := H2 j j0 hj e3 h0
          rw [hp] at this
          exact this
        · rw [if_neg e3]
          exact H1 j j0 hj e
  · intro j j0 hj hpar hp0
    rw [swpG_length] at hj
    rw [hdG_swp hi hpl, hdG_swp hi hpl, if_neg (by omega), if_neg (by omega), if_neg (show ¬ j = p by omega)]
    have k1 := H1 p hp0 hpl (by omega)
    by_cases e : j = i
    · rw [if_pos e]
      exact k1
    · rw [if_neg e]
      have k2 := H1 j j0 hj e
      rw [hpar] at k2
      exact O.ntrans k1 k2

theorem dnG_stop {L : List α} {i : Nat} (H : DnG r L i) (h : ∀ j, 0 < j → j < L.length → (j - 1) / 2 = i → ¬ r (hdG L i) (hdG L j)) : HeapG r L := by
  intro j h0 hj
  by_cases e : (j - 1) / 2 = i
  · rw [e]; exact h j h0 hj e
  · exact H.1 j h0 hj e

theorem dnG_step (O : OrdG r) {L : List α} {i c : Nat} (H : DnG r L i) (hc : c < L.length) (c0 : 0 < c) (hp : (c - 1) / 2 = i) (hl : r (hdG L i) (hdG L c)) (hmax : ∀ j, 0 < j → j < L.length → (j - 1) / 2 = i → ¬ r (hdG L c) (hdG L j)) : DnG r (swpG L i c) c := by
  obtain ⟨H1, H2⟩ := H
  have hi : i < L.length := by omega
  have hic : i ≠ c := by omega
  constructor
  · intro j j0 hj hne
    rw [swpG_length] at hj
    rw [hdG_swp hi hc, hdG_swp hi hc, if_neg hne]
    by_cases e : (j - 1) / 2 = i
    · rw [if_pos e]
      by_cases e2 : j = c
      · rw [if_pos e2]
        exact O.asymm hl
      · rw [if_neg e2, if_neg (by omega)]
        exact hmax j j0 hj e
    · rw [if_neg e]
      by_cases e2 : j = c
      · subst e2; exact absurd hp e
      · rw [if_neg e2]
        by_cases e3 : j = i
        · subst e3
          rw [if_pos rfl]
          exact H2 c c0 hc hp j0
        · rw [if_neg e3]
          exact H1 j j0 hj e
  · intro j j0 hj hpar hc0
    rw [swpG_length] at hj
    rw [hdG_swp hi hc, hdG_swp hi hc, if_neg (by omega), hp, if_pos rfl, if_neg (by omega), if_neg (by omega)]
    have := H1 j j0 hj (by omega)
    rw [hpar] at this
    exact this

/-- What stands on top stands behind no other's place. -/
theorem topG (O : OrdG r) {L : List α} (H : HeapG r L) : ∀ j, j < L.length → ¬ r (hdG L 0) (hdG L j) := by
  intro j
  induction j using Nat.strongRecOn with
  | ind j ih =>
    intro hj
    by_cases h0 : j = 0
    · subst h0; exact O.irrefl _
    · exact O.ntrans (ih ((j - 1) / 2) (by omega) (by omega)) (H j (by omega) hj)

theorem topG_mem (O : OrdG r) {L : List α} (H : HeapG r L) {x : α} (hx : x ∈ L) : ¬ r (hdG L 0) x := by
  obtain ⟨j, hj, rfl⟩ := List.getElem_of_mem hx
  have := topG O H j hj
  rw [hdG_of (List.getElem?_eq_getElem hj)] at this
  exact this

/-- The top taken away, the last one laid there. -/
def dropG (L : List α) : List α := (L.set 0 (hdG L (L.length - 1))).take (L.length - 1)

theorem dropG_length (L : List α) : (dropG L).length = L.length - 1 := by simp [dropG]

theorem hdG_dropG {L : List α} (h0 : 0 < L.length) {j : Nat} (hj : j < L.length - 1) : hdG (dropG L) j = if j = 0 then hdG L (L.length - 1) else hdG L j := by
  rw [← hdG_set h0]
  unfold dropG hdG
  simp only [List.getD]
  rw [List.getElem?_take_of_lt hj]

theorem dnG_dropG {L : List α} (H : HeapG r L) : DnG r (dropG L) 0 := by
  constructor
  · intro j j0 hj hne
    rw [dropG_length] at hj
    rw [hdG_dropG (by omega) (by omega), hdG_dropG (by omega) (by omega), if_neg hne, if_neg (by omega)]
    exact H j j0 (by omega)
  · intro j _ _ _ h
    exact absurd h (by omega)

theorem dropG_perm {L : List α} (h0 : 0 < L.length) : (hdG L 0 :: dropG L).Perm L := by
  match L, h0 with
  | [x], _ => simp [dropG, hdG]
  | x :: y :: L, _ =>
    have e : dropG (x :: y :: L) = hdG (x :: y :: L) (L.length + 1) :: (y :: L).take L.length := by
      unfold dropG
      show ((x :: y :: L).set 0 _).take (L.length + 1) = _
      rw [List.set_cons_zero, List.take_succ_cons]
      rfl
    have e2 : hdG (x :: y :: L) (L.length + 1) = (y :: L).getLast (by simp) := by
      unfold hdG
      simp only [List.getD, List.getElem?_cons_succ]
      rw [List.getLast_eq_getElem, List.getElem?_eq_getElem (by simp)]
      simp
    have e3 : (y :: L).take L.length = (y :: L).dropLast := by rw [List.dropLast_eq_take]; rfl
    rw [e, e2, e3]
    show (x :: _).Perm _
    refine List.Perm.cons x ?_
    have := List.dropLast_concat_getLast (l := y :: L) (by simp)
    have p : ((y :: L).dropLast ++ [(y :: L).getLast (by simp)]).Perm ((y :: L).getLast (by simp) :: (y :: L).dropLast) := List.perm_append_singleton _ _
    rw [this] at p
    exact p.symm

/-- The top and the last one exchanged, the last one cut off. -/
theorem dropG_swp {L : List α} (h : 0 < L.length) : (swpG L 0 (L.length - 1)).take (L.length - 1) = dropG L := by
  unfold swpG dropG
  rw [List.take_set_of_le (by omega)]

end
end Go.Proofs.Ytahdaccmokjgpaa

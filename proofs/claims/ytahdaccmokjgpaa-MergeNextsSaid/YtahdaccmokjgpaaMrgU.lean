/-
  PLAIN LAW of a merger over lists that rise: what stands, by how often each was asked.
-/
import Derived.Test.YtahdaccmokjgpaaMrgR
namespace Go.Proofs.Ytahdaccmokjgpaa
open Go.RowKit ArgK
set_option linter.unusedVariables false

/-- List i. -/
def lx (lists : List (List Ent)) (i : Nat) : List Ent := lists.getD i []

/-- What a list stands at. -/
def cur (lists : List (List Ent)) (u : Nat → Nat) (i : Nat) : Option Ent := if u i = 0 then none else (lx lists i)[u i - 1]?

/-- A merger over lists, each asked so often; some stand aside. -/
def stU (lists : List (List Ent)) (u : Nat → Nat) (P : Nat → Bool) : Mst :=
  ⟨(List.range lists.length).map (fun i => ⟨lx lists i, 0, false, u i⟩), (List.range lists.length).map (fun i => if P i then none else cur lists u i), true, 0⟩

theorem set_map_range {α : Type} (n i : Nat) (f : Nat → α) (x : α) : ((List.range n).map f).set i x = (List.range n).map (fun j => if j = i then x else f j) := by
  apply List.ext_getElem?
  intro j
  by_cases hji : j = i
  · subst hji
    by_cases hn : j < n
    · rw [List.getElem?_set_self (by simpa using hn)]
      simp [hn]
    · rw [List.getElem?_eq_none (by simp; omega), List.getElem?_eq_none (by simp; omega)]
  · rw [List.getElem?_set_ne (fun e => hji e.symm)]
    by_cases hn : j < n
    · simp [hn, hji]
    · rw [List.getElem?_eq_none (by simp; omega), List.getElem?_eq_none (by simp; omega)]

def bump1 (u : Nat → Nat) (i : Nat) : Nat → Nat := fun j => if j = i then u i + 1 else u j

theorem asked_lx {L : List Ent} (hr : rises L) (k : Nat) : (⟨L, 0, false, k⟩ : Sst).asked = (⟨L, 0, false, k + 1⟩, 0, L[k]?) := by
  unfold Sst.asked
  simp only [Bool.false_eq_true, if_false]
  cases ho : L[k]? with
  | none => rfl
  | some e =>
    simp only
    unfold Sst.last
    simp only
    by_cases hk : k = 0
    · rw [if_pos hk]
      rfl
    · rw [if_neg hk]
      have hlt := (List.getElem?_eq_some_iff.1 ho).1
      obtain ⟨l, hl⟩ : ∃ l, L[k - 1]? = some l := ⟨_, List.getElem?_eq_getElem (by omega)⟩
      rw [hl]
      simp only
      rw [if_pos (hr (k - 1) l e hl (by rw [show k - 1 + 1 = k by omega]; exact ho))]
      rfl

theorem ask_stU {lists : List (List Ent)} {u : Nat → Nat} {P : Nat → Bool} {i : Nat} (hi : i < lists.length) (hr : rises (lx lists i)) : (stU lists u P).ask i = stU lists (bump1 u i) (fun j => if j = i then false else P j) := by
  have hs : (stU lists u P).S[i]? = some ⟨lx lists i, 0, false, u i⟩ := by simp [stU, hi]
  rw [ask_some hs, asked_lx hr]
  unfold stU
  simp only [set_map_range, Mst.mk.injEq, and_true]
  refine ⟨?_, ?_⟩
  · apply List.map_congr_left
    intro j _
    unfold bump1
    split
    · next h => subst h; rfl
    · rfl
  · apply List.map_congr_left
    intro j _
    by_cases h : j = i
    · subst h
      simp only [if_true]
      unfold cur bump1
      simp
    · rw [if_neg h]
      simp only [if_neg h]
      unfold cur bump1
      simp only [if_neg h]

def bumpL (u : Nat → Nat) (l : List Nat) : Nat → Nat := fun j => if j ∈ l then u j + 1 else u j

theorem asks_stU {lists : List (List Ent)} : ∀ (l : List Nat) (u : Nat → Nat) (P : Nat → Bool), l.Nodup → (∀ i ∈ l, i < lists.length) → (∀ i, i < lists.length → rises (lx lists i)) → (stU lists u P).asks l = stU lists (bumpL u l) (fun j => if j ∈ l then false else P j)
  | [], u, P, _, _, _ => by
    rw [Mst.asks]
    congr 1
  | i :: l, u, P, hn, hl, hr => by
    rw [Mst.asks, ask_stU (hl i (by simp)) (hr i (hl i (by simp)))]
    rw [if_neg (fun h => h rfl), asks_stU l _ _ (List.nodup_cons.1 hn).2 (fun j hj => hl j (by simp [hj])) hr]
    have hni := (List.nodup_cons.1 hn).1
    congr 1
    · funext j
      unfold bumpL bump1
      by_cases h1 : j = i
      · subst h1
        simp [hni]
      · simp [h1]
    · funext j
      by_cases h1 : j = i
      · subst h1
        simp [hni]
      · simp [h1]

theorem stU_stands {lists : List (List Ent)} {u : Nat → Nat} {P : Nat → Bool} {x : Hdv} : x ∈ stands (stU lists u P).F ↔ x.n < lists.length ∧ P x.n = false ∧ cur lists u x.n = some x.e := by
  rw [stands_mem]
  unfold stU
  simp only
  by_cases h : x.n < lists.length
  · simp only [List.getElem?_map, List.getElem?_range h, Option.map_some, Option.some.injEq, h, true_and]
    cases P x.n <;> simp
  · rw [List.getElem?_eq_none (by simp; omega)]
    simp [h]

theorem off_stU (lists : List (List Ent)) (u : Nat → Nat) (q : Ent) : offPlace q (stU lists u (fun _ => false)).F = (stU lists u (fun i => match cur lists u i with | none => false | some h => decide (eat q h))).F := by
  unfold stU offPlace
  simp only [List.map_map]
  apply List.map_congr_left
  intro i _
  simp only [Function.comp, Bool.false_eq_true, if_false]
  have key : ∀ o : Option Ent, (match o with | none => none | some e => if eat q e then none else some e) = if (match o with | none => false | some h => decide (eat q h)) = true then none else o := by
    intro o
    cases o with
    | none => simp
    | some h => by_cases hq : eat q h <;> simp [hq]
  exact key _

/-- Two entries of one place in two lists have one number. -/
def Twice (lists : List (List Ent)) : Prop := ∃ i j x y, i < lists.length ∧ j < lists.length ∧ i ≠ j ∧ x ∈ lx lists i ∧ y ∈ lx lists j ∧ eat x y ∧ x.s = y.s

/-- What was taken of list i. -/
def tk (lists : List (List Ent)) (u : Nat → Nat) (i : Nat) : List Ent := (lx lists i).take (u i - 1)

/-- An entry is the last word of its place. -/
def LastW (lists : List (List Ent)) (e : Ent) : Prop := ∀ i y, i < lists.length → y ∈ lx lists i → eat e y → y.s ≤ e.s

/-- What holds between two steps: words are the last words of what was taken, in order. -/
structure UInv (lists : List (List Ent)) (u : Nat → Nat) (words : List Ent) : Prop where
  one : ∀ i, i < lists.length → 1 ≤ u i
  ord : words.Pairwise eless
  mem : ∀ e, e ∈ words ↔ (∃ i, i < lists.length ∧ e ∈ tk lists u i) ∧ LastW lists e
  lt : ∀ i x j h, i < lists.length → x ∈ tk lists u i → j < lists.length → cur lists u j = some h → eless x h
  ne : ∀ i j x y, i < lists.length → j < lists.length → i ≠ j → x ∈ tk lists u i → y ∈ tk lists u j → eat x y → x.s ≠ y.s

theorem rises_lt {L : List Ent} (hr : rises L) : ∀ (j i : Nat) (x y : Ent), i < j → L[i]? = some x → L[j]? = some y → eless x y
  | 0, i, x, y, h, _, _ => by omega
  | j + 1, i, x, y, h, hx, hy => by
    obtain ⟨z, hz⟩ : ∃ z, L[j]? = some z := ⟨_, List.getElem?_eq_getElem (by have := (List.getElem?_eq_some_iff.1 hy).1; omega)⟩
    have h1 := hr j z y hz hy
    rcases Nat.lt_or_ge i j with h2 | h2
    · exact eless_trans (rises_lt hr j i x z h2 hx hz) h1
    · have : i = j := by omega
      subst this
      rw [hx] at hz
      cases hz
      exact h1

theorem cur_some {lists : List (List Ent)} {u : Nat → Nat} {i : Nat} {h : Ent} (hc : cur lists u i = some h) : 0 < u i ∧ (lx lists i)[u i - 1]? = some h := by
  unfold cur at hc
  split at hc
  · cases hc
  · exact ⟨by omega, hc⟩

theorem tk_bump {lists : List (List Ent)} {u : Nat → Nat} {l : List Nat} {i : Nat} {h : Ent} (hc : cur lists u i = some h) (hi : i ∈ l) : tk lists (bumpL u l) i = tk lists u i ++ [h] := by
  obtain ⟨h0, h1⟩ := cur_some hc
  unfold tk bumpL
  rw [if_pos hi, show u i + 1 - 1 = (u i - 1) + 1 by omega, List.take_add_one, h1]
  rfl

theorem tk_far {lists : List (List Ent)} {u : Nat → Nat} {l : List Nat} {i : Nat} (hi : i ∉ l) : tk lists (bumpL u l) i = tk lists u i := by
  unfold tk bumpL
  rw [if_neg hi]

theorem cur_far {lists : List (List Ent)} {u : Nat → Nat} {l : List Nat} {i : Nat} (hi : i ∉ l) : cur lists (bumpL u l) i = cur lists u i := by
  unfold cur bumpL
  rw [if_neg hi]

theorem cur_bump {lists : List (List Ent)} {u : Nat → Nat} {l : List Nat} {i : Nat} {h h' : Ent} (hr : rises (lx lists i)) (hc : cur lists u i = some h) (hi : i ∈ l) (hc' : cur lists (bumpL u l) i = some h') : eless h h' := by
  obtain ⟨h0, h1⟩ := cur_some hc
  obtain ⟨h2, h3⟩ := cur_some hc'
  unfold bumpL at h3
  rw [if_pos hi] at h3
  exact rises_lt hr _ _ _ _ (by omega) h1 h3

theorem bestOf_spec : ∀ (l : List Hdv) (b : Ent), (bestOf b l = b ∨ ∃ x ∈ l, x.e = bestOf b l) ∧ b.s ≤ (bestOf b l).s ∧ ∀ x ∈ l, x.e.s ≤ (bestOf b l).s
  | [], b => ⟨.inl rfl, Int.le_refl _, by simp⟩
  | x :: l, b => by
    rw [bestOf]
    obtain ⟨h1, h2, h3⟩ := bestOf_spec l (if b.s < x.e.s then x.e else b)
    have hb : b.s ≤ (if b.s < x.e.s then x.e else b).s ∧ x.e.s ≤ (if b.s < x.e.s then x.e else b).s := by
      split <;> constructor <;> omega
    refine ⟨?_, by omega, fun y hy => ?_⟩
    · rcases h1 with h1 | ⟨y, hy, he⟩
      · rw [h1]
        split
        · exact .inr ⟨x, by simp, rfl⟩
        · exact .inl rfl
      · exact .inr ⟨y, by simp [hy], he⟩
    · rcases List.mem_cons.1 hy with rfl | hy
      · omega
      · exact h3 y hy

theorem wordOf_some {l : List Hdv} {b : Ent} (h : wordOf l = some b) : (∃ x ∈ l, x.e = b) ∧ (∀ x ∈ l, x.e.s ≤ b.s) ∧ (l.map (fun y => y.e.s)).Nodup := by
  cases l with
  | nil => cases h
  | cons y l =>
    rw [wordOf_cons] at h
    split at h
    · next hn =>
      cases h
      obtain ⟨h1, h2, h3⟩ := bestOf_spec (y :: l) y.e
      refine ⟨?_, h3, hn⟩
      rcases h1 with h1 | h1
      · exact ⟨y, by simp, h1.symm⟩
      · exact h1
    · cases h

theorem wordOf_none {l : List Hdv} (h : wordOf l = none) (h0 : l ≠ []) : ¬ (l.map (fun y => y.e.s)).Nodup := by
  cases l with
  | nil => exact absurd rfl h0
  | cons y l =>
    rw [wordOf_cons] at h
    split at h
    · cases h
    · next hn => exact hn
end Go.Proofs.Ytahdaccmokjgpaa

/-
  PLAIN LAWS of a merger: what stands, the least place, those of one place.
-/
import Derived.Test.YtahdaccmokjgpaaMrg
namespace Go.Proofs.Ytahdaccmokjgpaa
open Go.RowKit ArgK
set_option linter.unusedVariables false

theorem standsFrom_mem : ∀ (F : List (Option Ent)) (k : Nat) (x : Hdv), x ∈ standsFrom k F ↔ k ≤ x.n ∧ F[x.n - k]? = some (some x.e)
  | [], k, x => by simp [standsFrom]
  | none :: F, k, x => by
    rw [standsFrom, standsFrom_mem F (k + 1) x]
    constructor
    · rintro ⟨h1, h2⟩
      refine ⟨by omega, ?_⟩
      rw [show x.n - k = (x.n - (k + 1)) + 1 by omega, List.getElem?_cons_succ]
      exact h2
    · rintro ⟨h1, h2⟩
      have : x.n ≠ k := fun e => by rw [e, Nat.sub_self] at h2; simp at h2
      rw [show x.n - k = (x.n - (k + 1)) + 1 by omega, List.getElem?_cons_succ] at h2
      exact ⟨by omega, h2⟩
  | some e :: F, k, x => by
    rw [standsFrom, List.mem_cons, standsFrom_mem F (k + 1) x]
    constructor
    · rintro (rfl | ⟨h1, h2⟩)
      · simp
      · refine ⟨by omega, ?_⟩
        rw [show x.n - k = (x.n - (k + 1)) + 1 by omega, List.getElem?_cons_succ]
        exact h2
    · rintro ⟨h1, h2⟩
      by_cases hk : x.n = k
      · left
        rw [hk, Nat.sub_self] at h2
        simp at h2
        rw [← hk, h2]
      · right
        rw [show x.n - k = (x.n - (k + 1)) + 1 by omega, List.getElem?_cons_succ] at h2
        exact ⟨by omega, h2⟩

theorem stands_mem {F : List (Option Ent)} {x : Hdv} : x ∈ stands F ↔ F[x.n]? = some (some x.e) := by
  unfold stands
  rw [standsFrom_mem]
  simp

theorem standsFrom_sorted : ∀ (F : List (Option Ent)) (k : Nat), (standsFrom k F).Pairwise (fun a b => a.n < b.n)
  | [], k => by simp [standsFrom]
  | none :: F, k => by rw [standsFrom]; exact standsFrom_sorted F (k + 1)
  | some e :: F, k => by
    rw [standsFrom, List.pairwise_cons]
    refine ⟨fun y hy => ?_, standsFrom_sorted F (k + 1)⟩
    have := ((standsFrom_mem F (k + 1) y).1 hy).1
    show k < y.n
    omega

theorem stands_sorted (F : List (Option Ent)) : (stands F).Pairwise (fun a b => a.n < b.n) := standsFrom_sorted F 0

theorem standsFrom_set : ∀ (F : List (Option Ent)) (k i : Nat) (e : Ent), F[i]? = some none → (standsFrom k (F.set i (some e))).Perm (⟨e, k + i⟩ :: standsFrom k F)
  | [], k, i, e, h => by simp at h
  | none :: F, k, 0, e, h => by simp [standsFrom]
  | some x :: F, k, 0, e, h => by simp at h
  | none :: F, k, i + 1, e, h => by
    rw [List.set_cons_succ, standsFrom, standsFrom, show k + (i + 1) = (k + 1) + i by omega]
    exact standsFrom_set F (k + 1) i e (by simpa using h)
  | some x :: F, k, i + 1, e, h => by
    rw [List.set_cons_succ, standsFrom, standsFrom, show k + (i + 1) = (k + 1) + i by omega]
    exact ((standsFrom_set F (k + 1) i e (by simpa using h)).cons _).trans (List.Perm.swap _ _ _)

theorem stands_set {F : List (Option Ent)} {i : Nat} {e : Ent} (h : F[i]? = some none) : (stands (F.set i (some e))).Perm (⟨e, i⟩ :: stands F) := by
  have := standsFrom_set F 0 i e h
  rw [Nat.zero_add] at this
  exact this

theorem set_none_self {F : List (Option Ent)} {i : Nat} (h : F[i]? = some none) : F.set i none = F := by
  apply List.ext_getElem?
  intro j
  by_cases hj : j = i
  · subst hj
    have := (List.getElem?_eq_some_iff.1 h).1
    rw [List.getElem?_set_self this, h]
  · rw [List.getElem?_set_ne (fun e => hj e.symm)]

theorem standsFrom_off (p : Ent) : ∀ (F : List (Option Ent)) (k : Nat), standsFrom k (offPlace p F) = (standsFrom k F).filter (fun x => !decide (eat p x.e))
  | [], k => rfl
  | none :: F, k => by
    show standsFrom k (none :: offPlace p F) = _
    rw [standsFrom, standsFrom]
    exact standsFrom_off p F (k + 1)
  | some e :: F, k => by
    by_cases h : eat p e
    · have : offPlace p (some e :: F) = none :: offPlace p F := by simp [offPlace, h]
      rw [this, standsFrom, standsFrom, List.filter_cons]
      simp only [h, decide_true, Bool.not_true]
      exact standsFrom_off p F (k + 1)
    · have : offPlace p (some e :: F) = some e :: offPlace p F := by simp [offPlace, h]
      rw [this, standsFrom, standsFrom, List.filter_cons]
      simp only [h, decide_false, Bool.not_false, if_true]
      rw [standsFrom_off p F (k + 1)]

theorem stands_off (p : Ent) (F : List (Option Ent)) : stands (offPlace p F) = (stands F).filter (fun x => !decide (eat p x.e)) := standsFrom_off p F 0

theorem sorted_eq : ∀ {A B : List Hdv}, A.Pairwise (fun a b => a.n < b.n) → B.Pairwise (fun a b => a.n < b.n) → A.Perm B → A = B
  | [], B, _, _, h => (List.Perm.nil_eq h)
  | a :: A, B, hA, hB, h => by
    match B, hB, h with
    | [], _, h => exact absurd h (by simp)
    | b :: B, hB, h =>
      obtain ⟨ha, hA2⟩ := List.pairwise_cons.1 hA
      obtain ⟨hb, hB2⟩ := List.pairwise_cons.1 hB
      have e : a = b := by
        have h1 : a ∈ b :: B := h.subset (by simp)
        have h2 : b ∈ a :: A := h.symm.subset (by simp)
        rcases List.mem_cons.1 h1 with e | h1
        · exact e
        · rcases List.mem_cons.1 h2 with e | h2
          · exact e.symm
          · have := ha b h2
            have := hb a h1
            omega
      subst e
      rw [sorted_eq hA2 hB2 (List.Perm.cons_inv h)]

theorem leastE_none {L : List Hdv} (h : leastE L = none) : L = [] := by
  cases L with
  | nil => rfl
  | cons x L =>
    rw [leastE] at h
    cases h2 : leastE L with
    | none => rw [h2] at h; cases h
    | some e => rw [h2] at h; simp only at h; split at h <;> cases h

theorem leastE_some : ∀ {L : List Hdv} {p : Ent}, leastE L = some p → (∃ x ∈ L, x.e = p) ∧ ∀ y ∈ L, ¬ eless y.e p
  | [], p, h => by simp [leastE] at h
  | x :: L, p, h => by
    rw [leastE] at h
    cases h2 : leastE L with
    | none =>
      rw [h2] at h
      have := leastE_none h2
      subst this
      simp only [Option.some.injEq] at h
      subst h
      exact ⟨⟨x, by simp, rfl⟩, fun y hy => by simp at hy; subst hy; exact eless_irrefl _⟩
    | some e =>
      rw [h2] at h
      simp only at h
      obtain ⟨⟨z, hz, hze⟩, hl⟩ := leastE_some h2
      split at h
      · next hlt =>
        cases h
        refine ⟨⟨z, by simp [hz], hze⟩, fun y hy => ?_⟩
        rcases List.mem_cons.1 hy with rfl | hy
        · exact eless_asymm hlt
        · exact hl y hy
      · next hlt =>
        cases h
        refine ⟨⟨x, by simp, rfl⟩, fun y hy => ?_⟩
        rcases List.mem_cons.1 hy with rfl | hy
        · exact eless_irrefl _
        · intro h3
          rcases eless_or e x.e with k | k | k
          · exact hlt k
          · exact hl y hy (eless_eat h3 (eat_symm k))
          · exact hl y hy (eless_trans h3 k)

theorem leastE_of {L : List Hdv} {p : Ent} (h1 : ∃ x ∈ L, eat p x.e) (h2 : ∀ y ∈ L, ¬ eless y.e p) : ∃ q, leastE L = some q ∧ eat p q := by
  cases h : leastE L with
  | none =>
    have := leastE_none h
    subst this
    obtain ⟨x, hx, _⟩ := h1
    simp at hx
  | some q =>
    refine ⟨q, rfl, ?_⟩
    obtain ⟨⟨z, hz, hze⟩, hl⟩ := leastE_some h
    obtain ⟨x, hx, hxp⟩ := h1
    rcases eless_or p q with k | k | k
    · exact absurd (eat_eless (eat_symm hxp) k) (hl x hx)
    · exact k
    · exact absurd (hze ▸ k) (h2 z hz)

theorem eat_dec {p q : Ent} (h : eat p q) (x : Ent) : decide (eat p x) = decide (eat q x) := by
  rw [decide_eq_decide]
  exact ⟨fun k => eat_trans (eat_symm h) k, fun k => eat_trans h k⟩

theorem atPlace_eat {p q : Ent} (h : eat p q) (L : List Hdv) : atPlace p L = atPlace q L := by
  unfold atPlace
  congr 1
  funext x
  exact eat_dec h x.e

/-- Those that were taken away of one place are all of it. -/
theorem same_law {F : List (Option Ent)} {out Lk : List Hdv} {p : Ent} (hP : (out ++ Lk).Perm (stands F)) (h0 : out ≠ []) (hp : ∀ x ∈ out, eat p x.e) (hs : out.Pairwise (fun a b => a.n < b.n)) (h1 : ∀ y ∈ Lk, ¬ eat p y.e) (h2 : ∀ y ∈ Lk, ¬ eless y.e p) :
    ∃ q, leastE (stands F) = some q ∧ out = atPlace q (stands F) ∧ Lk.Perm (stands (offPlace q F)) := by
  obtain ⟨q, hq, hpq⟩ := leastE_of (L := stands F) (p := p) (by
    cases out with
    | nil => exact absurd rfl h0
    | cons x out => exact ⟨x, hP.subset (by simp), hp x (by simp)⟩) (by
    intro y hy
    rcases List.mem_append.1 (hP.symm.subset hy) with k | k
    · exact fun e => eless_not_eat e (eat_symm (hp y k))
    · exact h2 y k)
  refine ⟨q, hq, ?_, ?_⟩
  · refine sorted_eq hs ((stands_sorted F).filter _) ?_
    have h3 := hP.filter (fun x => decide (eat q x.e))
    rw [List.filter_append] at h3
    have e1 : out.filter (fun x => decide (eat q x.e)) = out := List.filter_eq_self.2 (fun x hx => by
      have := hp x hx
      simp only [decide_eq_true_eq]
      exact eat_trans (eat_symm hpq) this)
    have e2 : Lk.filter (fun x => decide (eat q x.e)) = [] := List.filter_eq_nil_iff.2 (fun x hx => by
      have := h1 x hx
      simp only [decide_eq_true_eq]
      exact fun k => this (eat_trans hpq k))
    rw [e1, e2, List.append_nil] at h3
    exact h3
  · rw [stands_off]
    have h3 := hP.filter (fun x => !decide (eat q x.e))
    rw [List.filter_append] at h3
    have e1 : out.filter (fun x => !decide (eat q x.e)) = [] := List.filter_eq_nil_iff.2 (fun x hx => by
      have := eat_trans (eat_symm hpq) (hp x hx)
      simp [this])
    have e2 : Lk.filter (fun x => !decide (eat q x.e)) = Lk := List.filter_eq_self.2 (fun x hx => by
      have : ¬ eat q x.e := fun k => h1 x hx (eat_trans hpq k)
      simp [this])
    rw [e1, e2, List.nil_append] at h3
    exact h3

theorem asked_cases (s : Sst) : s.asked.1 = (if s.mute then s else s.next) ∧ (s.asked.2.1 ≠ 0 → s.asked.2.2 = none) := by
  unfold Sst.asked
  cases s.mute
  · simp only [Bool.false_eq_true, if_false]
    cases s.es[s.used]? with
    | none => exact ⟨rfl, fun _ => rfl⟩
    | some e =>
      simp only
      cases s.last with
      | none => exact ⟨rfl, fun h => absurd rfl h⟩
      | some l =>
        simp only
        split
        · exact ⟨rfl, fun h => absurd rfl h⟩
        · exact ⟨rfl, fun _ => rfl⟩
  · exact ⟨rfl, fun _ => rfl⟩
end Go.Proofs.Ytahdaccmokjgpaa

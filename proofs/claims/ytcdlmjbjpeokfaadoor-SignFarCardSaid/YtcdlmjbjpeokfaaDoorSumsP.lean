/-
  PLAIN PARTS: the sums of a vector.
-/
import Derived.Test.YtcdlmjbjpeokfaaDoorDirF
namespace Go.Proofs.YtcdlmjbjpeokfaaDoor
open Go.RowKit
set_option linter.unusedVariables false

/-- A part as two cells; a part as a complex number. -/
def cellsP (z : Int × Int) : List Value := [.int .i64 z.1, .int .i64 z.2]

def pW (z : Int × Int) : Value := .complex .f64 (floatOfInt .f64 z.1) (floatOfInt .f64 z.2)

def encP (L : List (Int × Int)) : List Value := L.flatMap cellsP

theorem encP_cons (x : Int × Int) (L : List (Int × Int)) : encP (x :: L) = cellsP x ++ encP L := rfl

theorem encP_snoc (L : List (Int × Int)) (x : Int × Int) : encP (L ++ [x]) = encP L ++ cellsP x := by simp [encP]

theorem encP_length (L : List (Int × Int)) : (encP L).length = L.length * 2 := by
  induction L with
  | nil => rfl
  | cons x L ih => rw [encP_cons, List.length_append, ih, List.length_cons]; simp [cellsP]; omega

theorem encP_get : ∀ (L : List (Int × Int)) (j : Nat) (x : Int × Int), L[j]? = some x → ∀ k, k < 2 → (encP L)[j * 2 + k]? = (cellsP x)[k]?
  | [], _, _, h, _, _ => by simp at h
  | y :: L, 0, x, h, k, hk => by
    simp at h; subst h
    rw [encP_cons, Nat.zero_mul, Nat.zero_add, List.getElem?_append_left (by simp [cellsP]; omega)]
  | y :: L, j + 1, x, h, k, hk => by
    rw [encP_cons, show (j + 1) * 2 + k = (j * 2 + k) + (cellsP y).length by simp [cellsP]; omega, List.getElem?_append_right (Nat.le_add_left _ _), Nat.add_sub_cancel]
    exact encP_get L j x (by simpa using h) k hk

theorem own_lenP {w : World} {base : Nat} {e : TypeId} {v : Value} {m : Nat} {F : List (Int × Int)} (h : w.ownsRow base e 2 v m (encP F)) : F.length = m := by
  have hl := h.1
  rw [encP_length] at hl
  exact Nat.eq_of_mul_eq_mul_right (by decide) hl

/-- A list of parts that can be read. -/
def PL (w : World) (p : Option Addr) (z : List (Int × Int)) : Prop := ∀ i x, z[i]? = some x → ∃ a, p = some a ∧ w.cell? (a.add (i * 2)) = some (.int .i64 x.1) ∧ w.cell? ⟨(a.add (i * 2)).block, (a.add (i * 2)).off + 1, none⟩ = some (.int .i64 x.2)

theorem PL.below {w w' : World} {p : Option Addr} {z : List (Int × Int)} (h : PL w p z) (hb : Below w.heap.size w w') : PL w' p z := by
  intro i x hx
  obtain ⟨a, e, h1, h2⟩ := h i x hx
  exact ⟨a, e, (hb.cell (cell_ltS h1)).trans h1, (hb.cell (cell_ltS h2)).trans h2⟩

theorem add_zeroS (g k : Nat) : (⟨g, 0, none⟩ : Addr).add k = ⟨g, k, none⟩ := by unfold Addr.add; split <;> simp_all

theorem PL.of_own {w : World} {base : Nat} {e : TypeId} {p : Option Addr} {m c : Nat} {F : List (Int × Int)} (h : w.ownsRow base e 2 (.slice p m c) m (encP F)) : PL w p F := by
  intro i x hx
  have hi := (List.getElem?_eq_some_iff.1 hx).1
  have hn := own_lenP h
  obtain ⟨p', c', e1, _, _, hr⟩ := own_rd h
  cases e1
  obtain ⟨g, rfl, _, _, hc, _⟩ := hr (by omega)
  have hg := encP_get F i x hx
  refine ⟨_, rfl, ?_, ?_⟩
  · rw [add_zeroS, hc _ (by omega)]; exact hg 0 (by decide)
  · rw [add_zeroS]
    show w.cell? ⟨g, i * 2 + 1, none⟩ = _
    rw [hc _ (by omega)]; exact hg 1 (by decide)

/-- Is a number within the bounds of a part? -/
def fitP (n : Int) : Bool := decide (-1048576 ≤ n) && decide (n ≤ 1048576)

def fitsP (z : Int × Int) : Bool := fitP z.1 && fitP z.2

theorem fitP_iff {n : Int} : fitP n = true ↔ -1048576 ≤ n ∧ n ≤ 1048576 := by simp [fitP]

/-- A part times a unit. -/
def tm (p u : Int × Int) : Int × Int := (p.1 * u.1 - p.2 * u.2, p.1 * u.2 + p.2 * u.1)

/-- The sum along direction j over places. -/
def sumP (sd : Int) (j : Nat) (Z : Nat → Int × Int) {m : Nat} : List (Fin m) → Int × Int
  | [] => (0, 0)
  | x :: r => ((sumP sd j Z r).1 + (tm (Z x.val) (ui (unitN sd j x.val))).1, (sumP sd j Z r).2 + (tm (Z x.val) (ui (unitN sd j x.val))).2)

theorem ui_cases (n : Int) : ui n = (1, 0) ∨ ui n = (0, 1) ∨ ui n = (-1, 0) ∨ ui n = (0, -1) := by
  unfold ui
  split
  · exact .inl rfl
  · split
    · exact .inr (.inl rfl)
    · split
      · exact .inr (.inr (.inl rfl))
      · exact .inr (.inr (.inr rfl))

theorem tm_bound {p : Int × Int} (h1 : -1048576 ≤ p.1 ∧ p.1 ≤ 1048576) (h2 : -1048576 ≤ p.2 ∧ p.2 ≤ 1048576) (n : Int) : (-1048576 ≤ (tm p (ui n)).1 ∧ (tm p (ui n)).1 ≤ 1048576) ∧ (-1048576 ≤ (tm p (ui n)).2 ∧ (tm p (ui n)).2 ≤ 1048576) := by
  unfold tm
  rcases ui_cases n with e | e | e | e <;> rw [e] <;> simp only [Int.mul_one, Int.mul_zero, Int.mul_neg, Int.sub_zero, Int.zero_sub, Int.add_zero, Int.zero_add, Int.sub_neg] <;> omega

/-- Sum along direction j over places, the last of them last. -/
def sumS (sd : Int) (j : Nat) (Z : Nat → Int × Int) {m : Nat} (l : List (Fin m)) : Int × Int := sumP sd j Z l.reverse

theorem sumS_snoc (sd : Int) (j : Nat) (Z : Nat → Int × Int) {m : Nat} (l : List (Fin m)) (x : Fin m) : sumS sd j Z (l ++ [x]) = ((sumS sd j Z l).1 + (tm (Z x.val) (ui (unitN sd j x.val))).1, (sumS sd j Z l).2 + (tm (Z x.val) (ui (unitN sd j x.val))).2) := by
  unfold sumS
  rw [List.reverse_append]
  rfl

theorem sumS_bound (sd : Int) (j : Nat) (Z : Nat → Int × Int) {m : Nat} (hZ : ∀ k, k < m → (-1048576 ≤ (Z k).1 ∧ (Z k).1 ≤ 1048576) ∧ (-1048576 ≤ (Z k).2 ∧ (Z k).2 ≤ 1048576)) (l : List (Fin m)) :
    (-1048576 * (l.length : Int) ≤ (sumS sd j Z l).1 ∧ (sumS sd j Z l).1 ≤ 1048576 * (l.length : Int)) ∧ (-1048576 * (l.length : Int) ≤ (sumS sd j Z l).2 ∧ (sumS sd j Z l).2 ≤ 1048576 * (l.length : Int)) := by
  unfold sumS
  rw [← List.length_reverse]
  generalize l.reverse = r
  induction r with
  | nil => simp [sumP]
  | cons x r ih =>
    have hz := hZ x.val x.isLt
    obtain ⟨b1, b2⟩ := tm_bound hz.1 hz.2 (unitN sd j x.val)
    unfold sumP
    rw [List.length_cons]
    simp only
    omega

/-- A float's product with a unit, and the sum behind it. -/
theorem mulW {a b : Nat} {p : Int × Int} (ha : IsW a p.1) (hb : IsW b p.2) (h1 : -1048576 ≤ p.1 ∧ p.1 ≤ 1048576) (h2 : -1048576 ≤ p.2 ∧ p.2 ≤ 1048576) (n : Int) :
    ∃ re im, cMulBits a b (uw n).1 (uw n).2 = some (re, im) ∧ IsW re (tm p (ui n)).1 ∧ IsW im (tm p (ui n)).2 := by
  obtain ⟨u1, u2⟩ := uw_is n
  have hu : ((ui n).1 = 1 ∨ (ui n).1 = 0 ∨ (ui n).1 = -1) ∧ ((ui n).2 = 1 ∨ (ui n).2 = 0 ∨ (ui n).2 = -1) := by
    rcases ui_cases n with e | e | e | e <;> rw [e] <;> simp
  have small : ∀ x y : Int, (-1048576 ≤ x ∧ x ≤ 1048576) → (y = 1 ∨ y = 0 ∨ y = -1) → (x * y).natAbs ≤ 1048576 := by
    intro x y hx hy
    rcases hy with rfl | rfl | rfl <;> omega
  obtain ⟨ac, e1, k1⟩ := ha.mul u1 (by omega) (by omega) (by have := small _ _ h1 hu.1; omega)
  obtain ⟨bd, e2, k2⟩ := hb.mul u2 (by omega) (by omega) (by have := small _ _ h2 hu.2; omega)
  obtain ⟨ad, e3, k3⟩ := ha.mul u2 (by omega) (by omega) (by have := small _ _ h1 hu.2; omega)
  obtain ⟨bc, e4, k4⟩ := hb.mul u1 (by omega) (by omega) (by have := small _ _ h2 hu.1; omega)
  have q1 := small _ _ h1 hu.1
  have q2 := small _ _ h2 hu.2
  have q3 := small _ _ h1 hu.2
  have q4 := small _ _ h2 hu.1
  obtain ⟨re, e5, k5⟩ := k1.sub k2 (by omega) (by omega) (by omega)
  obtain ⟨im, e6, k6⟩ := k3.add k4 (by omega) (by omega) (by omega)
  refine ⟨re, im, ?_, k5, k6⟩
  simp only [cMulBits, e1, e2, e3, e4, Option.bind_some, e5, e6]

theorem addW {a b c d : Nat} {p q : Int × Int} (ha : IsW a p.1) (hb : IsW b p.2) (hc : IsW c q.1) (hd : IsW d q.2) (h1 : p.1.natAbs ≤ 1073741824 ∧ p.2.natAbs ≤ 1073741824) (h2 : q.1.natAbs ≤ 1073741824 ∧ q.2.natAbs ≤ 1073741824) :
    ∃ re im, cSumBits .add .f64 a b c d = some (re, im) ∧ IsW re (p.1 + q.1) ∧ IsW im (p.2 + q.2) := by
  obtain ⟨re, e1, k1⟩ := ha.add hc (by omega) (by omega) (by omega)
  obtain ⟨im, e2, k2⟩ := hb.add hd (by omega) (by omega) (by omega)
  refine ⟨re, im, ?_, k1, k2⟩
  simp only [cSumBits, e1, e2, Option.bind_some]

theorem isPart_calls (n : Int) (w : World) : Calls Tryd.prog 19 #[.int .i64 n] w fun x w' => x = .returned (.bool (fitP n)) ∧ w = w' := by
  unfold fitP
  by_cases h1 : -1048576 ≤ n
  · have d1 : decide (-1048576 ≤ n) = true := by simpa using h1
    rw [d1, Bool.true_and]
    go_enter Tryd.func19, Tryd.ntmps19
    go_wp2
    go_ret
    exact ⟨rfl, rfl⟩
  · have d1 : decide (-1048576 ≤ n) = false := by simpa using h1
    rw [d1, Bool.false_and]
    go_enter Tryd.func19, Tryd.ntmps19
    go_wp2
    go_ret
    exact ⟨rfl, rfl⟩
end Go.Proofs.YtcdlmjbjpeokfaaDoor

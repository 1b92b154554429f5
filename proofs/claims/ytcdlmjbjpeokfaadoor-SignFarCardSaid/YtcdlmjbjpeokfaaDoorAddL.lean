/-
  PLAIN LAWS: sums are linear.
-/
import Derived.Test.YtcdlmjbjpeokfaaDoorSsA
namespace Go.Proofs.YtcdlmjbjpeokfaaDoor
open Go.RowKit
set_option linter.unusedVariables false

theorem tm_add (p q u : Int × Int) : tm (p.1 + q.1, p.2 + q.2) u = ((tm p u).1 + (tm q u).1, (tm p u).2 + (tm q u).2) := by
  unfold tm
  simp only [Int.add_mul, Prod.mk.injEq]
  constructor <;> omega

theorem tm_mul (c : Int) (p u : Int × Int) : tm (c * p.1, c * p.2) u = (c * (tm p u).1, c * (tm p u).2) := by
  unfold tm
  simp only [Int.mul_add, Int.mul_sub, Int.mul_assoc]

theorem tm_turn (p u : Int × Int) : tm (-p.2, p.1) u = (-(tm p u).2, (tm p u).1) := by
  unfold tm
  exact Prod.ext (by simp only [Int.neg_mul]; omega) (by simp only [Int.neg_mul]; omega)

theorem sumP_add (sd : Int) (j : Nat) (A B Z : Nat → Int × Int) {m : Nat} (h : ∀ k, k < m → Z k = ((A k).1 + (B k).1, (A k).2 + (B k).2)) (l : List (Fin m)) :
    sumP sd j Z l = ((sumP sd j A l).1 + (sumP sd j B l).1, (sumP sd j A l).2 + (sumP sd j B l).2) := by
  induction l with
  | nil => rfl
  | cons x l ih =>
    unfold sumP
    rw [ih, h x.val x.isLt, tm_add]
    simp only [Prod.mk.injEq]
    constructor <;> omega

theorem sumP_mul (sd : Int) (j : Nat) (c : Int) (A Z : Nat → Int × Int) {m : Nat} (h : ∀ k, k < m → Z k = (c * (A k).1, c * (A k).2)) (l : List (Fin m)) :
    sumP sd j Z l = (c * (sumP sd j A l).1, c * (sumP sd j A l).2) := by
  induction l with
  | nil => simp [sumP]
  | cons x l ih =>
    unfold sumP
    rw [ih, h x.val x.isLt, tm_mul]
    simp only [Int.mul_add]

theorem sumP_turn (sd : Int) (j : Nat) (A Z : Nat → Int × Int) {m : Nat} (h : ∀ k, k < m → Z k = (-(A k).2, (A k).1)) (l : List (Fin m)) :
    sumP sd j Z l = (-(sumP sd j A l).2, (sumP sd j A l).1) := by
  induction l with
  | nil => simp [sumP]
  | cons x l ih =>
    unfold sumP
    rw [ih, h x.val x.isLt, tm_turn]
    exact Prod.ext (by simp only; omega) rfl

/-- Lists made out of a list. -/
def addL (u v : List (Int × Int)) : List (Int × Int) := (List.range u.length).map fun k => ((u.getD k (0, 0)).1 + (v.getD k (0, 0)).1, (u.getD k (0, 0)).2 + (v.getD k (0, 0)).2)

def mulL (c : Int) (v : List (Int × Int)) : List (Int × Int) := v.map fun p => (c * p.1, c * p.2)

def turnL (v : List (Int × Int)) : List (Int × Int) := v.map fun p => (-p.2, p.1)

theorem addL_length (u v : List (Int × Int)) : (addL u v).length = u.length := by simp [addL]

theorem mulL_length (c : Int) (v : List (Int × Int)) : (mulL c v).length = v.length := by simp [mulL]

theorem turnL_length (v : List (Int × Int)) : (turnL v).length = v.length := by simp [turnL]

theorem addL_getD (u v : List (Int × Int)) (k : Nat) (hk : k < u.length) : (addL u v).getD k (0, 0) = ((u.getD k (0, 0)).1 + (v.getD k (0, 0)).1, (u.getD k (0, 0)).2 + (v.getD k (0, 0)).2) := by
  simp [addL, List.getD, hk]

theorem mulL_getD (c : Int) (v : List (Int × Int)) (k : Nat) : (mulL c v).getD k (0, 0) = (c * (v.getD k (0, 0)).1, c * (v.getD k (0, 0)).2) := by
  simp only [mulL, List.getD, List.getElem?_map]
  rcases v[k]? with _ | x <;> simp

theorem turnL_getD (v : List (Int × Int)) (k : Nat) : (turnL v).getD k (0, 0) = (-(v.getD k (0, 0)).2, (v.getD k (0, 0)).1) := by
  simp only [turnL, List.getD, List.getElem?_map]
  rcases v[k]? with _ | x <;> simp

theorem sgL_getD (sd : Int) (h : Nat) (zs : List (Int × Int)) (i : Nat) (hi : i < h) : (sgL sd h zs).getD i (0, 0) = sumS sd i (fun q => zs.getD q (0, 0)) (frS zs.length zs.length) := by
  simp [List.getD, sgL_get sd h zs i hi]

theorem sgL_add (sd : Int) (h : Nat) (u v : List (Int × Int)) (hl : v.length = u.length) (i : Nat) (hi : i < h) :
    (sgL sd h (addL u v)).getD i (0, 0) = (((sgL sd h u).getD i (0, 0)).1 + ((sgL sd h v).getD i (0, 0)).1, ((sgL sd h u).getD i (0, 0)).2 + ((sgL sd h v).getD i (0, 0)).2) := by
  rw [sgL_getD _ _ _ _ hi, sgL_getD _ _ _ _ hi, sgL_getD _ _ _ _ hi]
  rw [addL_length, hl]
  unfold sumS
  exact sumP_add sd i _ _ _ (fun k hk => addL_getD u v k hk) _

theorem sgL_mul (sd : Int) (h : Nat) (c : Int) (u : List (Int × Int)) (i : Nat) (hi : i < h) :
    (sgL sd h (mulL c u)).getD i (0, 0) = (c * ((sgL sd h u).getD i (0, 0)).1, c * ((sgL sd h u).getD i (0, 0)).2) := by
  rw [sgL_getD _ _ _ _ hi, sgL_getD _ _ _ _ hi, mulL_length]
  unfold sumS
  exact sumP_mul sd i c _ _ (fun k hk => mulL_getD c u k) _

theorem sgL_turn (sd : Int) (h : Nat) (u : List (Int × Int)) (i : Nat) (hi : i < h) :
    (sgL sd h (turnL u)).getD i (0, 0) = (-((sgL sd h u).getD i (0, 0)).2, ((sgL sd h u).getD i (0, 0)).1) := by
  rw [sgL_getD _ _ _ _ hi, sgL_getD _ _ _ _ hi, turnL_length]
  unfold sumS
  exact sumP_turn sd i _ _ (fun k hk => turnL_getD u k) _

/-- The sums of one part: that part times a unit. -/
theorem sgL_one (sd : Int) (h : Nat) (p : Int × Int) (x : Int × Int) (hx : x ∈ sgL sd h [p]) : x = p ∨ x = (-p.2, p.1) ∨ x = (-p.1, -p.2) ∨ x = (p.2, -p.1) := by
  unfold sgL at hx
  rw [List.mem_map] at hx
  obtain ⟨i, _, rfl⟩ := hx
  have e : frS 1 1 = [(0 : Fin 1)] := by decide
  have e2 : sumS sd i (fun q => [p].getD q (0, 0)) (frS [p].length [p].length) = tm p (ui (unitN sd i 0)) := by
    show sumS sd i (fun q => [p].getD q (0, 0)) (frS 1 1) = _
    rw [e]
    simp [sumS, sumP]
  rw [e2]
  unfold tm
  rcases ui_cases (unitN sd i 0) with e | e | e | e <;> rw [e] <;> simp

theorem sgL_getElem (sd : Int) (h : Nat) (zs : List (Int × Int)) (i : Nat) (hi : i < h) : (sgL sd h zs)[i]? = some ((sgL sd h zs).getD i (0, 0)) := by
  rw [sgL_getD _ _ _ _ hi, sgL_get _ _ _ _ hi]
end Go.Proofs.YtcdlmjbjpeokfaaDoor

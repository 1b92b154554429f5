/-
  PLAIN LAWS: pairs near a code, their distances; the triangle.
-/
import Derived.Test.YtmfanldekjkbiaaDoorPlainC
import Derived.Test.YtmfanldekjkbiaaDoorFilled
namespace Go.Proofs.YtmfanldekjkbiaaDoor
open Go.RowKit
set_option linter.unusedVariables false

theorem nearT_mem {r : Int} {V : List Hv} {x : Hv} : x ∈ nearT r V ↔ x ∈ V ∧ x.d ≤ r := by
  unfold nearT near
  rw [allH_mem, List.mem_filter]
  simp

theorem firstT_mem {k : Nat} {V : List Hv} {x : Hv} (h : x ∈ firstT k V) : x ∈ V := (allH_mem _ _).1 (List.mem_of_mem_take h)

/-- How far two codes are apart. -/
def dB (a b : ByteArray) : Nat := wt (xorL a.data.toList b.data.toList)

theorem dB_le {a b : ByteArray} (h : a.size = b.size) : dB a b ≤ 8 * a.size := by
  have h1 := wt_le (xorL a.data.toList b.data.toList)
  have e1 : a.data.toList.length = a.size := rfl
  have e2 : b.data.toList.length = b.size := rfl
  rw [xorL_length _ _ (by rw [e1, e2]; exact h), e1] at h1
  exact h1

theorem dB_comm (a b : ByteArray) : dB a b = dB b a := by unfold dB; rw [xorL_comm]

theorem dB_tri {a b c : ByteArray} (h1 : a.size = b.size) (h2 : a.size = c.size) : dB a b ≤ dB a c + dB c b := wt_tri _ _ _ h1 h2

theorem same_pair {L : List Pv} (hn : (L.map (·.i)).Nodup) {p q : Pv} (hp : p ∈ L) (hq : q ∈ L) (h : p.i = q.i) : p = q := by
  have a1 := codeAt_mem hn hp
  have a2 := codeAt_mem hn hq
  rw [h] at a1
  rw [a1] at a2
  cases p; cases q; simp_all

theorem hit_bd {W : Nat} {L : List Pv} {q : ByteArray} {x : Hv} (hF : FitP W L) (hq : q.size = W / 8) (hW : W ≤ 1024) (h : x ∈ L.map (hitOf q)) : 0 ≤ x.d ∧ x.d ≤ 1024 := by
  obtain ⟨p, hp, rfl⟩ := List.mem_map.1 h
  have := dB_le (a := q) (b := p.c) (by have := (hF p hp).2.2; omega)
  unfold dB at this
  simp only [hitOf]
  omega

theorem tri_law {W : Nat} {L : List Pv} {q p : ByteArray} (hn : (L.map (·.i)).Nodup) (hF : FitP W L) (hq : q.size = W / 8) (hp : p.size = W / 8) (h8 : W % 8 = 0) {r far : Int} (hfar : far = if (W : Int) < r + dB q p then (W : Int) else r + dB q p) {x : Hv} (hx : x ∈ nearT r (L.map (hitOf q))) :
    (∃ y ∈ nearT far (L.map (hitOf p)), y.i = x.i) ∧ ∀ y ∈ nearT far (L.map (hitOf p)), y.i = x.i → y.c = x.c ∧ y.d - x.d ≤ dB q p ∧ -(y.d - x.d) ≤ dB q p := by
  obtain ⟨h1, h2⟩ := nearT_mem.1 hx
  obtain ⟨u, hu, rfl⟩ := List.mem_map.1 h1
  have hus := (hF u hu).2.2
  have t1 := dB_tri (a := p) (b := u.c) (c := q) (by omega) (by omega)
  have t2 := dB_tri (a := q) (b := u.c) (c := p) (by omega) (by omega)
  rw [dB_comm p q] at t1
  have b1 := dB_le (a := p) (b := u.c) (by omega)
  have e1 : (hitOf q u).d = (dB q u.c : Nat) := rfl
  have e2 : (hitOf p u).d = (dB p u.c : Nat) := rfl
  rw [e1] at h2
  refine ⟨⟨hitOf p u, nearT_mem.2 ⟨List.mem_map.2 ⟨u, hu, rfl⟩, ?_⟩, rfl⟩, fun y hy hi => ?_⟩
  · rw [e2, hfar]
    split <;> omega
  · obtain ⟨v, hv, rfl⟩ := List.mem_map.1 (nearT_mem.1 hy).1
    obtain rfl := same_pair hn hv hu hi
    refine ⟨rfl, ?_, ?_⟩
    · rw [e1, e2]; omega
    · rw [e1, e2]; omega

/-- Is one of the first j of this number? -/
def anyI (A : List Hv) (j : Nat) (i : Int) : Bool := (A.take j).any (fun y => y.i == i)

theorem anyI_succ {A : List Hv} {j : Nat} {i : Int} {y : Hv} (hy : A[j]? = some y) : anyI A (j + 1) i = (anyI A j i || y.i == i) := by
  obtain ⟨hj, e⟩ := List.getElem?_eq_some_iff.1 hy
  unfold anyI
  rw [List.take_succ_eq_append_getElem hj, List.any_append, e]
  simp

theorem anyI_all {A : List Hv} {i : Int} (h : ∃ y ∈ A, y.i = i) : anyI A A.length i = true := by
  unfold anyI
  rw [List.take_length]
  simpa using h

/-- A radius that goes. -/
def radN (W : Nat) (r : Int) : Int := if r < 0 ∨ (W : Int) < r then 2 else r

theorem radN_bd {W : Nat} (hW : 64 ≤ W) (r : Int) : 0 ≤ radN W r ∧ radN W r ≤ W := by
  unfold radN
  split <;> omega

theorem fillL_bound (n : Nat) : ∀ (ps acc : List Pv), acc.length ≤ 80 → (fillL n acc ps).length ≤ 80
  | [], acc, h => by rw [fillL]; exact h
  | p :: ps, acc, h => by
    rw [fillL]
    split
    · rename_i hl
      exact fillL_bound n ps _ (addF_length n p hl)
    · exact h
end Go.Proofs.YtmfanldekjkbiaaDoor

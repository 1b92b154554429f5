/-
  PLAIN LAWS: hits that are written are read as they were.
-/
import Derived.Test.YtabhjkaheghbhaaFwd
import Derived.Test.YtabhjkaheghbhaaInv2
namespace Go.Proofs.Ytabhjkaheghbhaa
open Go.RowKit
set_option linter.unusedVariables false

theorem rf_zero {is : Bool} {E e : Int} (hE : E ≠ 0) (h : rf is E e = 0) : e = 0 ∧ is = false := by
  unfold rf at h
  split at h
  · exact absurd h hE
  · next h1 =>
    refine ⟨h, ?_⟩
    cases is
    · rfl
    · exact absurd ⟨rfl, h⟩ h1
theorem hitE_zero {o : Bool} {x : Hv} {e : Int} (h : hitE o x e = 0) : e = 0 ∧ o = false ∧ 0 ≤ x.d ∧ 0 ≤ x.i ∧ x.c.size ≤ 65536 := by
  unfold hitE at h
  obtain ⟨h1, rfl⟩ := rf_zero (by decide) h
  obtain ⟨h2, e3⟩ := rf_zero (by decide) h1
  obtain ⟨h3, e2⟩ := rf_zero (by decide) h2
  obtain ⟨h4, e1⟩ := rf_zero (by decide) h3
  have := of_decide_eq_false e1
  have := of_decide_eq_false e2
  have := of_decide_eq_false e3
  exact ⟨h4, rfl, by omega, by omega, by omega⟩
theorem hitsE_zero {z : List Hv} : ∀ {k : Nat}, k ≤ z.length → hitsE z k 0 = 0 → ∀ j x, j < k → z[j]? = some x → outO z j = false ∧ 0 ≤ x.d ∧ 0 ≤ x.i ∧ x.c.size ≤ 65536
  | 0, _, _, j, x, hj, _ => absurd hj (Nat.not_lt_zero _)
  | k + 1, hk, h, j, x, hj, hx => by
    obtain ⟨y, hy⟩ : ∃ y, z[k]? = some y := ⟨_, List.getElem?_eq_getElem (by omega)⟩
    rw [hitsE_step _ _ _ _ hy] at h
    obtain ⟨h0, h1⟩ := hitE_zero h
    by_cases e : j = k
    · subst e
      rw [hy] at hx
      cases hx
      exact h1
    · exact hitsE_zero (by omega) h0 j x (by omega) hx
theorem hitR_fwd {b : ByteArray} {p : Option Hv} {a : Nat} {x : Hv} {rest : List UInt8} (ha : a ≤ b.size) (h1 : 0 ≤ x.d ∧ x.d ≤ 9223372036854775807) (h2 : 0 ≤ x.i ∧ x.i ≤ 9223372036854775807) (h3 : x.c.size ≤ 65536) (hp : ∀ y, p = some y → behB y x = true) (h : tl b a = hitB x ++ rest) :
    hitR b p (.ok a) = (.ok (a + (hitB x).length), x) ∧ tl b (a + (hitB x).length) = rest := by
  refine ⟨?_, tl_add b a _ _ h⟩
  unfold hitB at h ⊢
  rw [List.append_assoc, List.append_assoc, List.append_assoc] at h
  obtain ⟨e1, t1⟩ := pNum_fwd (most := 9223372036854775807) (E := 13) (by decide) h1.1 h1.2 ha h
  have l1 := pNum_ok e1
  obtain ⟨e2, t2⟩ := pNum_fwd (most := 9223372036854775807) (E := 13) (by decide) h2.1 h2.2 l1 t1
  have l2 := pNum_ok e2
  rw [← List.append_assoc] at t2
  obtain ⟨e3, t3⟩ := pText_fwd h3 l2 t2
  unfold hitR aNum
  simp only [e1, e2, e3]
  have hl : a + (vNum x.d).length + (vNum x.i).length + (vNum x.c.size).length + x.c.size = a + (vNum x.d ++ vNum x.i ++ vNum x.c.size ++ x.c.data.toList).length := by
    have h9 : x.c.data.toList.length = x.c.size := rfl
    simp only [List.length_append]
    omega
  cases p with
  | none => simp only; rw [← hl]
  | some y => simp only [hp y rfl, if_true]; rw [← hl]

/-- Such hits as are written. -/
def Goes (z : List Hv) : Prop := ∀ j x, z[j]? = some x → outO z j = false ∧ (0 ≤ x.d ∧ x.d ≤ 9223372036854775807) ∧ (0 ≤ x.i ∧ x.i ≤ 9223372036854775807) ∧ x.c.size ≤ 65536
theorem pLoop_fwd {b : ByteArray} {z : List Hv} (hv : Goes z) : ∀ (m k a : Nat) (rest : List UInt8), k + m = z.length → a ≤ b.size → tl b a = hitsB (z.drop k) ++ rest →
    pLoop b m (.ok a) (z.take k) = (.ok (a + (hitsB (z.drop k)).length), z) ∧ tl b (a + (hitsB (z.drop k)).length) = rest
  | 0, k, a, rest, hk, ha, h => by
    have hd : z.drop k = [] := List.drop_eq_nil_iff.2 (by omega)
    have ht : z.take k = z := List.take_of_length_le (by omega)
    refine ⟨?_, tl_add b a _ _ h⟩
    rw [hd, ht]
    rfl
  | m + 1, k, a, rest, hk, ha, h => by
    have hkl : k < z.length := by omega
    obtain ⟨x, hx⟩ : ∃ x, z[k]? = some x := ⟨_, List.getElem?_eq_getElem hkl⟩
    have hxe : z[k]'hkl = x := by rw [List.getElem?_eq_getElem hkl] at hx; exact Option.some.inj hx
    have hd : hitsB (z.drop k) = hitB x ++ hitsB (z.drop (k + 1)) := by
      rw [List.drop_eq_getElem_cons hkl, hxe]
      simp [hitsB]
    refine ⟨?_, tl_add b a _ _ h⟩
    rw [hd, List.append_assoc] at h
    obtain ⟨o1, o2, o3, o4⟩ := hv k x hx
    have hp : ∀ y, (z.take k).getLast? = some y → behB y x = true := by
      intro y hy
      cases k with
      | zero => simp at hy
      | succ j =>
        rw [List.getLast?_eq_getElem?, List.length_take, Nat.min_eq_left (by omega), Nat.add_sub_cancel, List.getElem?_take_of_lt (by omega)] at hy
        unfold outO at o1
        simp only [hy, hx] at o1
        cases hb : behB y x with
        | true => rfl
        | false => rw [hb] at o1; cases o1
    obtain ⟨e1, t1⟩ := hitR_fwd ha o2 o3 o4 hp h
    have hs : a + (hitB x).length ≤ b.size := by
      have hl := congrArg List.length h
      have htl : (tl b a).length = b.size - a := by unfold tl; rw [List.length_drop, size_len]
      rw [htl, List.length_append] at hl
      omega
    rw [pLoop_step, e1]
    simp only
    have htk : z.take k ++ [x] = z.take (k + 1) := by rw [List.take_add_one, hx]; rfl
    rw [htk]
    have ih := pLoop_fwd hv m (k + 1) (a + (hitB x).length) rest (by omega) hs t1
    rw [ih.1, hd, List.length_append, Nat.add_assoc]
theorem pHits_fwd {b : ByteArray} {z : List Hv} (hv : Goes z) (hl : z.length ≤ 65536) {a : Nat} {rest : List UInt8} (ha : a ≤ b.size) (h : tl b a = vNum z.length ++ hitsB z ++ rest) :
    ∃ a', pHits b (.ok a) = (.ok a', z) ∧ tl b a' = rest := by
  rw [List.append_assoc] at h
  obtain ⟨e1, t1⟩ := pNum_fwd (most := 65536) (E := 43) (n := z.length) (by decide) (by omega) (by omega) ha h
  have l1 := pNum_ok e1
  have ih := pLoop_fwd hv z.length 0 (a + (vNum z.length).length) rest (by omega) l1 (by simpa using t1)
  refine ⟨_, ?_, ih.2⟩
  unfold pHits
  rw [e1]
  simp only [Int.toNat_natCast]
  exact ih.1
end Go.Proofs.Ytabhjkaheghbhaa

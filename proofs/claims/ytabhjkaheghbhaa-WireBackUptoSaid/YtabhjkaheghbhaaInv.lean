/-
  PLAIN LAWS: what is read, written again, is the same bytes.
-/
import Derived.Test.YtabhjkaheghbhaaTold
import Derived.Test.YtabhjkaheghbhaaAskX
namespace Go.Proofs.Ytabhjkaheghbhaa
open Go.RowKit
set_option linter.unusedVariables false

theorem scanV_inv : ∀ (l : List UInt8) (a k v v' : Nat) (nx : Int), k ≤ 9 → scanV a k v l = (v', nx, 0) →
    ∃ u, v' = v + u * 2 ^ (7 * k) ∧ (∃ rest, l = varF (9 - k) u ++ rest) ∧ nx = ((a + k + (varF (9 - k) u).length : Nat) : Int) ∧ (0 < k → u ≠ 0)
  | [], a, k, v, v', nx, hk, h => by simp [scanV] at h
  | c :: r, a, k, v, v', nx, hk, h => by
    unfold scanV at h
    have hc := c.toNat_lt
    split at h
    · simp at h
    · next h1 =>
      split at h
      · next h2 =>
        split at h
        · simp at h
        · next h3 =>
          simp only [Prod.mk.injEq] at h
          obtain ⟨rfl, rfl, _⟩ := h
          have hm : c.toNat % 128 = c.toNat := Nat.mod_eq_of_lt h2
          refine ⟨c.toNat, by rw [hm], ⟨r, ?_⟩, ?_, fun hk0 h0 => h3 ⟨h0, hk0⟩⟩
          · rw [varF_low _ _ h2]; simp
          · rw [varF_low _ _ h2]; simp
      · next h2 =>
        have hk9 : k < 9 := by
          rcases Nat.lt_or_ge k 9 with h9 | h9
          · exact h9
          · exfalso
            have : k = 9 := by omega
            exact h1 ⟨this, by omega⟩
        obtain ⟨u, e1, ⟨rest, e2⟩, e3, e4⟩ := scanV_inv r a (k + 1) _ v' nx (by omega) h
        have hu := e4 (by omega)
        refine ⟨c.toNat % 128 + 128 * u, ?_, ⟨rest, ?_⟩, ?_, fun _ => by omega⟩
        · rw [e1, show 7 * (k + 1) = 7 * k + 7 by omega, Nat.pow_add, Nat.add_mul]
          have : (128 * u) * 2 ^ (7 * k) = u * (2 ^ (7 * k) * 2 ^ 7) := by
            rw [show (2 : Nat) ^ 7 = 128 by rfl, Nat.mul_comm 128 u, Nat.mul_assoc, Nat.mul_comm 128 (2 ^ (7 * k))]
          rw [this, Nat.add_assoc]
        · have hh : ¬ (c.toNat % 128 + 128 * u) < 128 := by omega
          rw [show 9 - k = (9 - (k + 1)) + 1 by omega, varF_high _ _ hh, List.cons_append, e2]
          have e5 : (c.toNat % 128 + 128 * u) % 128 + 128 = c.toNat := by omega
          have e6 : (c.toNat % 128 + 128 * u) / 128 = u := by omega
          rw [e5, e6]
          simp
        · have hh : ¬ (c.toNat % 128 + 128 * u) < 128 := by omega
          rw [e3, show 9 - k = (9 - (k + 1)) + 1 by omega, varF_high _ _ hh]
          have e6 : (c.toNat % 128 + 128 * u) / 128 = u := by omega
          rw [e6, List.length_cons]
          congr 1
          omega
theorem varR_inv (l : List UInt8) (a v : Nat) (nx : Int) (h : varR l a = (v, nx, 0)) : l.drop a = varB v ++ l.drop nx.toNat ∧ ∃ n : Nat, nx = n ∧ a ≤ n ∧ n ≤ l.length := by
  unfold varR at h
  split at h
  · simp at h
  · next hr =>
    simp only [Int.toNat_natCast] at h
    obtain ⟨u, e1, ⟨rest, e2⟩, e3, _⟩ := scanV_inv _ a 0 0 v nx (by omega) h
    have hu : v = u := by rw [e1]; simp
    subst hu
    simp only [Nat.sub_zero, Nat.add_zero] at e2 e3
    have hl : (l.drop a).length = (varB v).length + rest.length := by rw [e2, List.length_append]; rfl
    rw [List.length_drop] at hl
    have hal : a ≤ l.length := by omega
    refine ⟨?_, _, e3, by omega, ?_⟩
    · rw [e3, Int.toNat_natCast, ← List.drop_drop, e2]
      show varB v ++ rest = varB v ++ (varB v ++ rest).drop (varB v).length
      rw [List.drop_left]
    · have : (varF 9 v).length = (varB v).length := rfl
      omega

/-- What stands from a on in a text. -/
def tl (b : ByteArray) (a : Nat) : List UInt8 := b.data.toList.drop a
theorem size_len (b : ByteArray) : b.data.toList.length = b.size := rfl
theorem pNum_inv {b : ByteArray} {most : Nat} {E : Int} {a a' : Nat} {n : Int} (h : pNum b most E (.ok a) = (.ok a', n)) (hm : most ≤ 9223372036854775807) :
    tl b a = vNum n ++ tl b a' ∧ a ≤ a' ∧ a' ≤ b.size ∧ 0 ≤ n ∧ n ≤ most := by
  obtain ⟨v, nx, f, hv⟩ : ∃ v nx f, varR b.data.toList a = (v, nx, f) := ⟨_, _, _, rfl⟩
  unfold pNum at h
  simp only [hv] at h
  by_cases hf : f = 0
  · subst hf
    obtain ⟨e1, m, rfl, e2, e3⟩ := varR_inv _ _ _ _ hv
    by_cases h1 : 9223372036854775807 < v
    · simp [h1] at h
    · by_cases h2 : most < v
      · simp [h1, h2] at h
      · simp only [ne_eq, not_true_eq_false, if_false, h1, h2, Int.toNat_natCast, Prod.mk.injEq, Except.ok.injEq] at h
        obtain ⟨rfl, rfl⟩ := h
        refine ⟨?_, e2, e3, by omega, by omega⟩
        have hw : IntKind.u64.wrap (v : Int) = (v : Int) := by rw [IntKind.wrap_u64]; omega
        unfold vNum tl
        rw [hw]
        simpa using e1
  · simp [hf] at h
theorem pNum_okS {b : ByteArray} {most : Nat} {E : Int} {s : St} {a' : Nat} {n : Int} (h : pNum b most E s = (.ok a', n)) : ∃ a, s = .ok a := by
  cases s with
  | error e => simp [pNum] at h
  | ok a => exact ⟨a, rfl⟩
theorem tl_take (b : ByteArray) (a n : Nat) (h : a + n ≤ b.size) : tl b a = (b.extract a (a + n)).data.toList ++ tl b (a + n) ∧ (b.extract a (a + n)).size = n := by
  unfold tl
  have h1 : (b.extract a (a + n)).data.toList = (b.data.toList.drop a).take n := by
    rw [ByteArray.data_extract, Array.toList_extract, List.extract_eq_take_drop]
    congr 1
    omega
  refine ⟨?_, ?_⟩
  · rw [h1, ← List.drop_drop, List.take_append_drop]
  · rw [ByteArray.size_extract]; omega
theorem pText_inv {b : ByteArray} {a a' : Nat} {c : ByteArray} (h : pText b (.ok a) = (.ok a', c)) :
    tl b a = vNum c.size ++ c.data.toList ++ tl b a' ∧ a ≤ a' ∧ a' ≤ b.size ∧ c.size ≤ 65536 := by
  unfold pText at h
  obtain ⟨s1, n, hn⟩ : ∃ s1 n, pNum b 65536 36 (.ok a) = (s1, n) := ⟨_, _, rfl⟩
  rw [hn] at h
  cases s1 with
  | error e => simp at h
  | ok a1 =>
    simp only at h
    obtain ⟨e1, e2, e3, e4, e5⟩ := pNum_inv hn (by decide)
    split at h
    · simp at h
    · next hs =>
      obtain ⟨m, rfl⟩ : ∃ m : Nat, n = m := ⟨n.toNat, by omega⟩
      simp only [Int.toNat_natCast, Prod.mk.injEq, Except.ok.injEq] at h
      obtain ⟨rfl, rfl⟩ := h
      obtain ⟨t1, t2⟩ := tl_take b a1 m (by omega)
      refine ⟨?_, by omega, by omega, by rw [t2]; omega⟩
      rw [e1, t2, t1, List.append_assoc]
theorem pText_okS {b : ByteArray} {s : St} {a' : Nat} {c : ByteArray} (h : pText b s = (.ok a', c)) : ∃ a, s = .ok a := by
  cases s with
  | error e => simp [pText, pNum] at h
  | ok a => exact ⟨a, rfl⟩
theorem pEnd_inv {b : ByteArray} {s : St} (h : pEnd b s = 0) (he : ∀ e, s = .error e → e ≠ 0) : ∃ a, s = .ok a ∧ tl b a = [] := by
  cases s with
  | error e => exact absurd h (he e rfl)
  | ok a =>
    refine ⟨a, rfl, ?_⟩
    unfold pEnd at h
    simp only at h
    split at h
    · simp at h
    · next hl => unfold tl; rw [List.drop_eq_nil_iff]; rw [size_len]; omega
end Go.Proofs.Ytabhjkaheghbhaa

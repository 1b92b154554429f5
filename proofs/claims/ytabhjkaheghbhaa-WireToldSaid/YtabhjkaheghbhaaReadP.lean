/-
  READING, as plain Lean: the reader's state, and what its methods answer; a reader in memory.
-/
import Derived.Test.YtabhjkaheghbhaaVarP
import Derived.Test.YtabhjkaheghbhaaApp
import Derived.Lib.ItoaWalk
namespace Go.Proofs.Ytabhjkaheghbhaa
open Go.RowKit
set_option linter.unusedVariables false

/-- The refusal that is kept. -/
def rf (is : Bool) (E e : Int) : Int := if is = true ∧ e = 0 then E else e
/-- A reader's state: its place, or its refusal. -/
abbrev St := Except Int Nat
def bat (b : ByteArray) (i : Nat) : Int := ((b.data.toList.getD i 0).toNat : Int)
theorem bat_lt (b : ByteArray) (i : Nat) : 0 ≤ bat b i ∧ bat b i < 256 := by
  unfold bat
  have := (b.data.toList.getD i 0).toNat_lt
  omega
theorem idx_str {P : Program} (t : TypeId) (ht : P.underlying t = some .string) (s : ByteArray) (z : Int) (i : Nat) (hz : z = (i : Int)) (hi : i < s.size) (w : World) :
    (Instr.index t (.string s) (.int .i64 z)).run P w = .ok (.int .u8 (bat s i)) w := by
  subst hz
  rw [run_index_string w t s .i64 _ ht, dif_pos ⟨by omega, by omega⟩]
  have : s[((i : Int)).toNat]'(by simpa using hi) = s.data.toList.getD i 0 := by
    rw [Lib.getD_at]; simp
  unfold bat
  rw [← this]
/-- A number. -/
def pNum (b : ByteArray) (most : Nat) (E : Int) : St → St × Int
  | .error e => (.error e, 0)
  | .ok a =>
    if (varR b.data.toList a).2.2 ≠ 0 then (.error (varR b.data.toList a).2.2, 0)
    else if 9223372036854775807 < (varR b.data.toList a).1 then (.error 13, 0)
    else if most < (varR b.data.toList a).1 then (.error E, 0)
    else (.ok (varR b.data.toList a).2.1.toNat, (varR b.data.toList a).1)
/-- A text. -/
def pText (b : ByteArray) (s : St) : St × ByteArray :=
  match pNum b 65536 36 s with
  | (.error e, _) => (.error e, ⟨#[]⟩)
  | (.ok a, n) => if (b.size : Int) - a < n then (.error 31, ⟨#[]⟩) else (.ok (a + n.toNat), b.extract a (a + n.toNat))
/-- The end. -/
def pEnd (b : ByteArray) : St → Int
  | .error e => e
  | .ok a => if a < b.size then 37 else 0
/-- The two bytes ahead. -/
def pHead (b : ByteArray) (letter : Int) : St × Int :=
  if b.size = 0 then (.error 31, 0) else if bat b 0 ≠ letter then (.error 35, 0) else if b.size = 1 then (.error 31, 0)
  else if bat b 1 < 1 ∨ 9 < bat b 1 then (.error 35, 0) else (.ok 2, bat b 1)

theorem scanV_spec : ∀ (l : List UInt8) (a k v : Nat), ((scanV a k v l).2.2 = 0 → ∃ n : Nat, (scanV a k v l).2.1 = n ∧ a + k < n ∧ n ≤ a + k + l.length)
  | [], a, k, v, h => by simp [scanV] at h
  | c :: r, a, k, v, h => by
    unfold scanV at h ⊢
    split
    · next h1 => rw [if_pos h1] at h; simp at h
    · next h1 =>
      rw [if_neg h1] at h
      split
      · next h2 =>
        rw [if_pos h2] at h
        split
        · next h3 => rw [if_pos h3] at h; simp at h
        · exact ⟨_, rfl, by omega, by simp⟩
      · next h2 =>
        rw [if_neg h2] at h
        obtain ⟨n, e, h4, h5⟩ := scanV_spec r a (k + 1) _ h
        exact ⟨n, e, by omega, by simp; omega⟩
theorem varR_next (b : ByteArray) (a : Nat) (h : (varR b.data.toList a).2.2 = 0) : ∃ n : Nat, (varR b.data.toList a).2.1 = n ∧ a < n ∧ n ≤ b.size := by
  unfold varR at h ⊢
  split
  · next h1 => rw [if_pos h1] at h; simp at h
  · next h1 =>
    rw [if_neg h1] at h
    obtain ⟨n, e, h2, h3⟩ := scanV_spec _ _ _ _ h
    refine ⟨n, e, by simpa using h2, ?_⟩
    have h4 : b.data.toList.length = b.size := rfl
    simp only [List.length_drop, Int.toNat_natCast] at h3
    omega

theorem scanV_lt : ∀ (l : List UInt8) (a k v : Nat), k ≤ 9 → v < 2 ^ (7 * k) → (scanV a k v l).1 < 18446744073709551616
  | [], a, k, v, hk, hv => by simp [scanV]
  | c :: r, a, k, v, hk, hv => by
    unfold scanV
    split
    · simp
    · next h1 =>
      have h9 : k = 9 → c.toNat % 128 ≤ 1 := fun h => by
        have : ¬ 1 < c.toNat := fun h' => h1 ⟨h, h'⟩
        omega
      have hB := var_bound k v (c.toNat % 128) hk hv (by omega) h9
      split
      · split
        · simp
        · exact hB.2.1
      · next h2 =>
        have hk9 : k < 9 := by
          rcases Nat.lt_or_ge k 9 with h | h
          · exact h
          · exfalso
            have h3 : k = 9 := by omega
            have : ¬ 1 < c.toNat := fun h' => h1 ⟨h3, h'⟩
            omega
        exact scanV_lt r a (k + 1) _ (by omega) (hB.2.2 hk9)
theorem varR_lt (l : List UInt8) (a : Int) : (varR l a).1 < 18446744073709551616 := by
  unfold varR
  split
  · simp
  · exact scanV_lt _ _ 0 0 (by omega) (by simp)

/-- A reader in memory. -/
def Rs (w : World) (T : TypeId) (r : Nat) (b : ByteArray) (a e : Int) : Prop := w.heap[r]? = some (.cells #[.string b, .int .i64 a, .int .i64 e] T (0, 0))
theorem Rs.cells {w : World} {T : TypeId} {r : Nat} {b : ByteArray} {a e : Int} (h : Rs w T r b a e) :
    w.cell? ⟨r, 0, none⟩ = some (.string b) ∧ w.cell? ⟨r, 1, none⟩ = some (.int .i64 a) ∧ w.cell? ⟨r, 2, none⟩ = some (.int .i64 e) ∧ w.frozen? ⟨r, 1, none⟩ = false ∧ w.frozen? ⟨r, 2, none⟩ = false := by
  unfold Rs at h
  simp [World.cell?, World.frozen?, h]
theorem Rs.drew {w : World} {T : TypeId} {r : Nat} {b : ByteArray} {a e : Int} (h : Rs w T r b a e) (n : Nat) : Rs (w.drewN n) T r b a e := h
theorem Rs.set1 {w : World} {T : TypeId} {r : Nat} {b : ByteArray} {a e : Int} (h : Rs w T r b a e) (a' : Int) : Rs (w.setCell ⟨r, 1, none⟩ (.int .i64 a')) T r b a' e := by
  unfold Rs at *
  simp [World.setCell, Array.getElem?_modify, h]
theorem Rs.set2 {w : World} {T : TypeId} {r : Nat} {b : ByteArray} {a e : Int} (h : Rs w T r b a e) (e' : Int) : Rs (w.setCell ⟨r, 2, none⟩ (.int .i64 e')) T r b a e' := by
  unfold Rs at *
  simp [World.setCell, Array.getElem?_modify, h]
theorem Rs.lt {w : World} {T : TypeId} {r : Nat} {b : ByteArray} {a e : Int} (h : Rs w T r b a e) : r < w.heap.size := by
  unfold Rs at h
  rcases Nat.lt_or_ge r w.heap.size with h' | h'
  · exact h'
  · simp [Array.getElem?_eq_none h'] at h
/-- .. in a state. -/
def Rd (w : World) (T : TypeId) (r : Nat) (b : ByteArray) : St → Prop
  | .ok a => a ≤ b.size ∧ Rs w T r b a 0
  | .error e => e ≠ 0 ∧ ∃ a, Rs w T r b a e
theorem Rd.lt {w : World} {T : TypeId} {r : Nat} {b : ByteArray} {s : St} (h : Rd w T r b s) : r < w.heap.size := by
  cases s with
  | ok a => exact Rs.lt h.2
  | error e => obtain ⟨_, a, h⟩ := h; exact Rs.lt h
theorem Rd.of {w w' : World} {T : TypeId} {r : Nat} {b : ByteArray} {s : St} (h : Rd w T r b s) (e : w'.heap[r]? = w.heap[r]?) : Rd w' T r b s := by
  cases s with
  | ok a => exact ⟨h.1, e.trans h.2⟩
  | error c => obtain ⟨h1, a, h⟩ := h; exact ⟨h1, a, e.trans h⟩
end Go.Proofs.Ytabhjkaheghbhaa

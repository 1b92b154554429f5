/-
  ENTRIES: what they are in memory, and their order as plain Lean.
-/
import Derived.Test.YtahdaccmokjgpaaRows2
import Derived.Test.YtahdaccmokjgpaaApp
namespace Go.Proofs.Ytahdaccmokjgpaa
open Go.RowKit
set_option linter.unusedVariables false

/-- An entry: chunk's value, code, pair, number of the update, is it dead. -/
structure Ent where
  v : Int
  c : ByteArray
  i : Int
  s : Int
  d : Bool
deriving DecidableEq
def Ent.cells (e : Ent) : List Value := [.int .i64 e.v, .string e.c, .int .i64 e.i, .int .i64 e.s, .bool e.d]
def Ent.val (e : Ent) : Value := .agg #[.int .i64 e.v, .string e.c, .int .i64 e.i, .int .i64 e.s, .bool e.d]

/-- The order of texts. -/
def sless (a b : ByteArray) : Bool := Op.bytesLess a.toList b.toList
theorem bl_irrefl : ∀ a : List UInt8, Op.bytesLess a a = false
  | [] => rfl
  | a :: x => by simp [Op.bytesLess, bl_irrefl x]
theorem bl_trans : ∀ a b c : List UInt8, Op.bytesLess a b = true → Op.bytesLess b c = true → Op.bytesLess a c = true
  | [], [], _, h, _ => by simp [Op.bytesLess] at h
  | _ :: _, [], _, h, _ => by simp [Op.bytesLess] at h
  | _, _ :: _, [], _, h => by simp [Op.bytesLess] at h
  | [], _ :: _, _ :: _, _, _ => rfl
  | a :: x, b :: y, c :: z, h1, h2 => by
    simp only [Op.bytesLess, Bool.or_eq_true, Bool.and_eq_true, decide_eq_true_eq, beq_iff_eq] at h1 h2 ⊢
    rcases h1 with h1 | ⟨rfl, h1⟩
    · rcases h2 with h2 | ⟨rfl, h2⟩
      · exact .inl (UInt8.lt_trans h1 h2)
      · exact .inl h1
    · rcases h2 with h2 | ⟨rfl, h2⟩
      · exact .inl h2
      · exact .inr ⟨rfl, bl_trans x y z h1 h2⟩
theorem bl_total : ∀ a b : List UInt8, Op.bytesLess a b = false → Op.bytesLess b a = false → a = b
  | [], [], _, _ => rfl
  | [], _ :: _, h, _ => by simp [Op.bytesLess] at h
  | _ :: _, [], _, h => by simp [Op.bytesLess] at h
  | a :: x, b :: y, h1, h2 => by
    simp only [Op.bytesLess, Bool.or_eq_false_iff, Bool.and_eq_false_iff, decide_eq_false_iff_not, beq_eq_false_iff_ne] at h1 h2
    have hab : a = b := by
      have h3 := h1.1
      have h4 := h2.1
      exact UInt8.le_antisymm (UInt8.not_lt.1 h4) (UInt8.not_lt.1 h3)
    subst hab
    have h3 : Op.bytesLess x y = false := by rcases h1.2 with h | h; exact absurd rfl h; exact h
    have h4 : Op.bytesLess y x = false := by rcases h2.2 with h | h; exact absurd rfl h; exact h
    rw [bl_total x y h3 h4]
theorem toList_inj {a b : ByteArray} (h : a.toList = b.toList) : a = b := by
  rw [ByteArray.toList_eq, ByteArray.toList_eq] at h
  cases a; cases b; simp_all
theorem sless_irrefl (a : ByteArray) : sless a a = false := bl_irrefl _
theorem sless_trans {a b c : ByteArray} (h : sless a b = true) (k : sless b c = true) : sless a c = true := bl_trans _ _ _ h k
theorem sless_total {a b : ByteArray} (h : sless a b = false) (k : sless b a = false) : a = b := toList_inj (bl_total _ _ h k)
theorem sless_gtr (a b : ByteArray) : (!(Op.bytesLess a.toList b.toList || a.toList == b.toList)) = sless b a := by
  unfold sless
  cases h : Op.bytesLess a.toList b.toList
  · cases h2 : Op.bytesLess b.toList a.toList
    · have := bl_total _ _ h h2
      simp [this]
    · have : a.toList ≠ b.toList := fun e => by rw [e, bl_irrefl] at h2; cases h2
      simp [this]
  · cases h2 : Op.bytesLess b.toList a.toList
    · rfl
    · have := bl_trans _ _ _ h h2
      rw [bl_irrefl] at this
      cases this

def cmpI (a b : Int) : Int := if a < b then -1 else if b < a then 1 else 0
def cmpS (a b : ByteArray) : Int := if sless a b then -1 else if sless b a then 1 else 0
/-- The order of entries: below 0, 0, above 0. -/
def cmpE (a b : Ent) : Int := if cmpI a.v b.v ≠ 0 then cmpI a.v b.v else if cmpS a.c b.c ≠ 0 then cmpS a.c b.c else cmpI a.i b.i
/-- Where an entry stands: below. -/
def eless (a b : Ent) : Prop := a.v < b.v ∨ (a.v = b.v ∧ (sless a.c b.c = true ∨ (a.c = b.c ∧ a.i < b.i)))
/-- .. at one place. -/
def eat (a b : Ent) : Prop := a.v = b.v ∧ a.c = b.c ∧ a.i = b.i
instance (a b : Ent) : Decidable (eless a b) := by unfold eless; infer_instance
instance (a b : Ent) : Decidable (eat a b) := by unfold eat; infer_instance
theorem eless_irrefl (a : Ent) : ¬ eless a a := by
  unfold eless
  rw [sless_irrefl]
  rintro (h | ⟨_, h | ⟨_, h⟩⟩)
  · omega
  · cases h
  · omega
theorem eless_trans {a b c : Ent} (h : eless a b) (k : eless b c) : eless a c := by
  unfold eless at *
  rcases h with h | ⟨h1, h⟩
  · rcases k with k | ⟨k1, k⟩
    · exact .inl (by omega)
    · exact .inl (by omega)
  · rcases k with k | ⟨k1, k⟩
    · exact .inl (by omega)
    · refine .inr ⟨by omega, ?_⟩
      rcases h with h | ⟨h2, h⟩
      · rcases k with k | ⟨k2, k⟩
        · exact .inl (sless_trans h k)
        · exact .inl (k2 ▸ h)
      · rcases k with k | ⟨k2, k⟩
        · exact .inl (h2 ▸ k)
        · exact .inr ⟨h2.trans k2, by omega⟩
theorem eat_refl (a : Ent) : eat a a := ⟨rfl, rfl, rfl⟩
theorem eat_symm {a b : Ent} (h : eat a b) : eat b a := ⟨h.1.symm, h.2.1.symm, h.2.2.symm⟩
theorem eat_trans {a b c : Ent} (h : eat a b) (k : eat b c) : eat a c := ⟨h.1.trans k.1, h.2.1.trans k.2.1, h.2.2.trans k.2.2⟩
theorem eless_eat {a b c : Ent} (h : eless a b) (k : eat b c) : eless a c := by
  obtain ⟨k1, k2, k3⟩ := k
  unfold eless at *
  rw [← k1, ← k2, ← k3]; exact h
theorem eat_eless {a b c : Ent} (h : eat a b) (k : eless b c) : eless a c := by
  obtain ⟨k1, k2, k3⟩ := h
  unfold eless at *
  rw [k1, k2, k3]; exact k
theorem eless_not_eat {a b : Ent} (h : eless a b) : ¬ eat a b := fun k => eless_irrefl b (eat_eless (eat_symm k) h)
theorem eless_asymm {a b : Ent} (h : eless a b) : ¬ eless b a := fun k => eless_irrefl a (eless_trans h k)
theorem eless_or (a b : Ent) : eless a b ∨ eat a b ∨ eless b a := by
  unfold eless eat
  by_cases h1 : a.v < b.v
  · exact .inl (.inl h1)
  by_cases h2 : b.v < a.v
  · exact .inr (.inr (.inl h2))
  have h3 : a.v = b.v := by omega
  cases h4 : sless a.c b.c
  · cases h5 : sless b.c a.c
    · have h6 := sless_total h4 h5
      by_cases h7 : a.i < b.i
      · exact .inl (.inr ⟨h3, .inr ⟨h6, h7⟩⟩)
      by_cases h8 : b.i < a.i
      · exact .inr (.inr (.inr ⟨h3.symm, .inr ⟨h6.symm, h8⟩⟩))
      · exact .inr (.inl ⟨h3, h6, by omega⟩)
    · exact .inr (.inr (.inr ⟨h3.symm, .inl rfl⟩))
  · exact .inl (.inr ⟨h3, .inl rfl⟩)
theorem cmpE_lt {a b : Ent} (h : eless a b) : cmpE a b = -1 := by
  unfold cmpE cmpI cmpS
  rcases h with h | ⟨h1, h | ⟨h2, h3⟩⟩
  · simp [h]
  · simp [h1, h]
  · simp [h1, h2, sless_irrefl, h3]
theorem cmpE_gt {a b : Ent} (h : eless b a) : cmpE a b = 1 := by
  unfold cmpE cmpI cmpS
  rcases h with h | ⟨h1, h | ⟨h2, h3⟩⟩
  · have : ¬ a.v < b.v := by omega
    simp [h, this]
  · have : sless a.c b.c = false := by
      cases h' : sless a.c b.c
      · rfl
      · have := sless_trans h h'; rw [sless_irrefl] at this; cases this
    simp [h1, h, this]
  · have : ¬ a.i < b.i := by omega
    simp [h1, h2, sless_irrefl, h3, this]
theorem cmpE_eq {a b : Ent} (h : eat a b) : cmpE a b = 0 := by
  unfold cmpE cmpI cmpS
  obtain ⟨h1, h2, h3⟩ := h
  simp [h1, h2, h3, sless_irrefl]
theorem cmpE_refl (a : Ent) : cmpE a a = 0 := cmpE_eq (eat_refl a)
theorem cmpE_neg {a b : Ent} : cmpE a b < 0 ↔ eless a b := by
  rcases eless_or a b with h | h | h
  · rw [cmpE_lt h]; simp [h]
  · rw [cmpE_eq h]; simp; exact fun k => eless_not_eat k h
  · rw [cmpE_gt h]; simp; exact eless_asymm h
theorem cmpE_pos {a b : Ent} : 0 < cmpE a b ↔ eless b a := by
  rcases eless_or a b with h | h | h
  · rw [cmpE_lt h]; simp; exact eless_asymm h
  · rw [cmpE_eq h]; simp; exact fun k => eless_not_eat k (eat_symm h)
  · rw [cmpE_gt h]; simp [h]
theorem cmpE_zero {a b : Ent} : cmpE a b = 0 ↔ eat a b := by
  rcases eless_or a b with h | h | h
  · rw [cmpE_lt h]; simp; exact eless_not_eat h
  · rw [cmpE_eq h]; simp [h]
  · rw [cmpE_gt h]; simp; exact fun k => eless_not_eat h (eat_symm k)
theorem cmpE_bound (a b : Ent) : cmpE a b = -1 ∨ cmpE a b = 0 ∨ cmpE a b = 1 := by
  rcases eless_or a b with h | h | h
  · exact .inl (cmpE_lt h)
  · exact .inr (.inl (cmpE_eq h))
  · exact .inr (.inr (cmpE_gt h))

/-- Entries as they lie in memory. -/
def encE (L : List Ent) : List Value := L.flatMap Ent.cells
theorem encE_nil : encE [] = [] := rfl
theorem encE_cons (x : Ent) (L : List Ent) : encE (x :: L) = x.cells ++ encE L := rfl
theorem encE_append (L M : List Ent) : encE (L ++ M) = encE L ++ encE M := by simp [encE]
theorem encE_snoc (L : List Ent) (x : Ent) : encE (L ++ [x]) = encE L ++ x.cells := by simp [encE]
theorem encE_length (L : List Ent) : (encE L).length = L.length * 5 := by
  induction L with
  | nil => rfl
  | cons x L ih => rw [encE_cons, List.length_append, ih, List.length_cons]; simp [Ent.cells]; omega
theorem encE_get : ∀ (L : List Ent) (j : Nat) (x : Ent), L[j]? = some x → ∀ k, k < 5 → (encE L)[j * 5 + k]? = x.cells[k]?
  | [], _, _, h, _, _ => by simp at h
  | y :: L, 0, x, h, k, hk => by
    simp at h; subst h
    rw [encE_cons, Nat.zero_mul, Nat.zero_add, List.getElem?_append_left (by simp [Ent.cells]; omega)]
  | y :: L, j + 1, x, h, k, hk => by
    rw [encE_cons, show (j + 1) * 5 + k = (j * 5 + k) + y.cells.length by simp [Ent.cells]; omega, List.getElem?_append_right (Nat.le_add_left _ _), Nat.add_sub_cancel]
    exact encE_get L j x (by simpa using h) k hk
theorem encE_inj : ∀ {L M : List Ent}, encE L = encE M → L = M
  | [], [], _ => rfl
  | [], _ :: _, h => by simp [encE, Ent.cells] at h
  | _ :: _, [], h => by simp [encE, Ent.cells] at h
  | x :: L, y :: M, h => by
    rw [encE_cons, encE_cons] at h
    have h2 := List.append_inj h (by simp [Ent.cells])
    obtain ⟨a, b, c, d, e⟩ := x
    obtain ⟨a', b', c', d', e'⟩ := y
    simp [Ent.cells] at h2
    obtain ⟨⟨rfl, rfl, rfl, rfl, rfl⟩, h3⟩ := h2
    rw [encE_inj h3]
end Go.Proofs.Ytahdaccmokjgpaa

/-
  HEADS of a merger: what they are in memory, their order, rows of them; and what a call may turn: blocks of some types, from a block on.
-/
import Derived.Test.YtahdaccmokjgpaaMarkE
import Derived.Test.YtahdaccmokjgpaaHeapG
namespace Go.Proofs.Ytahdaccmokjgpaa
open Go.RowKit ArgK
set_option linter.unusedVariables false

instance : Inhabited Ent := ⟨⟨0, ⟨#[]⟩, 0, 0, false⟩⟩

/-- A head: an entry, and the number of its source. -/
structure Hdv where
  e : Ent
  n : Nat

instance : Inhabited Hdv := ⟨⟨default, 0⟩⟩

def Hdv.cells (x : Hdv) : List Value := [.int .i64 x.e.v, .string x.e.c, .int .i64 x.e.i, .int .i64 x.e.s, .bool x.e.d, .int .i64 x.n]

def Hdv.val (x : Hdv) : Value := .agg #[.int .i64 x.e.v, .string x.e.c, .int .i64 x.e.i, .int .i64 x.e.s, .bool x.e.d, .int .i64 x.n]

/-- a stands ahead of b: by its place, of one place by its source. -/
def hdless (a b : Hdv) : Prop := eless a.e b.e ∨ (eat a.e b.e ∧ a.n < b.n)

instance (a b : Hdv) : Decidable (hdless a b) := by unfold hdless; infer_instance

theorem hdless_irrefl (a : Hdv) : ¬ hdless a a := by
  rintro (h | ⟨_, h⟩)
  · exact eless_irrefl _ h
  · omega

theorem hdless_trans {a b c : Hdv} (h : hdless a b) (k : hdless b c) : hdless a c := by
  rcases h with h | ⟨h1, h2⟩ <;> rcases k with k | ⟨k1, k2⟩
  · exact .inl (eless_trans h k)
  · exact .inl (eless_eat h k1)
  · exact .inl (eat_eless h1 k)
  · exact .inr ⟨eat_trans h1 k1, by omega⟩

theorem hdless_asymm {a b : Hdv} (h : hdless a b) : ¬ hdless b a := fun k => hdless_irrefl a (hdless_trans h k)

theorem not_hdless {a b : Hdv} (h : ¬ hdless a b) : hdless b a ∨ (eat a.e b.e ∧ a.n = b.n) := by
  rcases eless_or a.e b.e with k | k | k
  · exact absurd (.inl k) h
  · rcases Nat.lt_trichotomy a.n b.n with e | e | e
    · exact absurd (.inr ⟨k, e⟩) h
    · exact .inr ⟨k, e⟩
    · exact .inl (.inr ⟨eat_symm k, e⟩)
  · exact .inl (.inl k)

theorem hdless_same {a b c : Hdv} (h : eat a.e b.e ∧ a.n = b.n) : (hdless b c ↔ hdless a c) ∧ (hdless c b ↔ hdless c a) := by
  obtain ⟨h1, h2⟩ := h
  refine ⟨⟨?_, ?_⟩, ⟨?_, ?_⟩⟩
  · rintro (k | ⟨k1, k2⟩)
    · exact .inl (eat_eless h1 k)
    · exact .inr ⟨eat_trans h1 k1, by omega⟩
  · rintro (k | ⟨k1, k2⟩)
    · exact .inl (eat_eless (eat_symm h1) k)
    · exact .inr ⟨eat_trans (eat_symm h1) k1, by omega⟩
  · rintro (k | ⟨k1, k2⟩)
    · exact .inl (eless_eat k (eat_symm h1))
    · exact .inr ⟨eat_trans k1 (eat_symm h1), by omega⟩
  · rintro (k | ⟨k1, k2⟩)
    · exact .inl (eless_eat k h1)
    · exact .inr ⟨eat_trans k1 h1, by omega⟩

theorem nhdless_trans {a b c : Hdv} (h : ¬ hdless a b) (k : ¬ hdless b c) : ¬ hdless a c := by
  rcases not_hdless h with h' | h'
  · rcases not_hdless k with k' | k'
    · exact hdless_asymm (hdless_trans k' h')
    · exact fun e => h ((hdless_same k').2.1 e)
  · exact fun e => k ((hdless_same h').1.2 e)

/-- What must not stand above. -/
def abv (a b : Hdv) : Prop := hdless b a

theorem ordD : OrdG abv := ⟨fun x => hdless_irrefl x, fun h => hdless_asymm h, fun h k => nhdless_trans k h⟩

def encD (L : List Hdv) : List Value := L.flatMap Hdv.cells

theorem encD_cons (x : Hdv) (L : List Hdv) : encD (x :: L) = x.cells ++ encD L := rfl

theorem encD_append (L M : List Hdv) : encD (L ++ M) = encD L ++ encD M := by simp [encD]

theorem encD_snoc (L : List Hdv) (x : Hdv) : encD (L ++ [x]) = encD L ++ x.cells := by simp [encD]

theorem encD_length (L : List Hdv) : (encD L).length = L.length * 6 := by
  induction L with
  | nil => rfl
  | cons x L ih => rw [encD_cons, List.length_append, ih, List.length_cons]; simp [Hdv.cells]; omega

theorem encD_get : ∀ (L : List Hdv) (j : Nat) (x : Hdv), L[j]? = some x → ∀ k, k < 6 → (encD L)[j * 6 + k]? = x.cells[k]?
  | [], _, _, h, _, _ => by simp at h
  | y :: L, 0, x, h, k, hk => by
    simp at h; subst h
    rw [encD_cons, Nat.zero_mul, Nat.zero_add, List.getElem?_append_left (by simp [Hdv.cells]; omega)]
  | y :: L, j + 1, x, h, k, hk => by
    rw [encD_cons, show (j + 1) * 6 + k = (j * 6 + k) + y.cells.length by simp [Hdv.cells]; omega, List.getElem?_append_right (Nat.le_add_left _ _), Nat.add_sub_cancel]
    exact encD_get L j x (by simpa using h) k hk

theorem encD_take (L : List Hdv) (j : Nat) : (encD L).take (j * 6) = encD (L.take j) := by
  induction L generalizing j with
  | nil => simp [encD]
  | cons x L ih =>
    cases j with
    | zero => simp [encD]
    | succ j =>
      rw [encD_cons, show (j + 1) * 6 = x.cells.length + j * 6 by simp [Hdv.cells]; omega, List.take_append, List.take_of_length_le (Nat.le_add_right _ _), Nat.add_sub_cancel_left, ih]
      rfl

theorem encD_set : ∀ (F : List Hdv) (j : Nat) (x : Hdv), ((((((encD F).set (j * 6) (.int .i64 x.e.v)).set (j * 6 + 1) (.string x.e.c)).set (j * 6 + 2) (.int .i64 x.e.i)).set (j * 6 + 3) (.int .i64 x.e.s)).set (j * 6 + 4) (.bool x.e.d)).set (j * 6 + 5) (.int .i64 x.n) = encD (F.set j x)
  | [], j, x => by simp [encD]
  | y :: F, 0, x => by
    rw [List.set_cons_zero, encD_cons, encD_cons]
    rfl
  | y :: F, j + 1, x => by
    rw [List.set_cons_succ, encD_cons, encD_cons, ← encD_set F j x]
    have h3 : (j + 1) * 6 = j * 6 + 6 := by omega
    rw [h3]
    rfl

theorem own_lenD {w : World} {base : Nat} {e : TypeId} {v : Value} {m : Nat} {F : List Hdv} (h : w.ownsRow base e 6 v m (encD F)) : F.length = m := by
  have hl := h.1
  rw [encD_length] at hl
  exact Nat.eq_of_mul_eq_mul_right (by decide) hl

/-- The six cells of a head of a row. -/
theorem own_sixD {w : World} {base : Nat} {e : TypeId} {g m c : Nat} {F : List Hdv} (h : w.ownsRow base e 6 (.slice (some ⟨g, 0, none⟩) m c) m (encD F)) {j : Nat} {x : Hdv} (hx : F[j]? = some x) :
    w.cell? ⟨g, j * 6, none⟩ = some (.int .i64 x.e.v) ∧ w.cell? ⟨g, j * 6 + 1, none⟩ = some (.string x.e.c) ∧ w.cell? ⟨g, j * 6 + 2, none⟩ = some (.int .i64 x.e.i) ∧ w.cell? ⟨g, j * 6 + 3, none⟩ = some (.int .i64 x.e.s) ∧ w.cell? ⟨g, j * 6 + 4, none⟩ = some (.bool x.e.d) ∧ w.cell? ⟨g, j * 6 + 5, none⟩ = some (.int .i64 x.n) := by
  have hn := own_lenD h
  have hj := (List.getElem?_eq_some_iff.1 hx).1
  have hg := encD_get F j x hx
  exact ⟨by rw [h.cellAt _ (by omega)]; exact hg 0 (by decide), by rw [h.cellAt _ (by omega)]; exact hg 1 (by decide), by rw [h.cellAt _ (by omega)]; exact hg 2 (by decide), by rw [h.cellAt _ (by omega)]; exact hg 3 (by decide), by rw [h.cellAt _ (by omega)]; exact hg 4 (by decide), by rw [h.cellAt _ (by omega)]; exact hg 5 (by decide)⟩

theorem own_takeD {w : World} {base : Nat} {e : TypeId} {g n cap : Nat} {F : List Hdv} (h : w.ownsRow base e 6 (.slice (some ⟨g, 0, none⟩) n cap) n (encD F)) {k : Nat} (hk : k ≤ n) :
    w.ownsRow base e 6 (.slice (some ⟨g, 0, none⟩) k cap) k (encD (F.take k)) := by
  rw [← encD_take]; exact own_take h hk

/-- A head written over element j. -/
def setD (w : World) (g j : Nat) (x : Hdv) : World :=
  ((((((w.setCell ⟨g, j * 6, none⟩ (.int .i64 x.e.v)).setCell ⟨g, j * 6 + 1, none⟩ (.string x.e.c)).setCell ⟨g, j * 6 + 2, none⟩ (.int .i64 x.e.i)).setCell ⟨g, j * 6 + 3, none⟩ (.int .i64 x.e.s)).setCell ⟨g, j * 6 + 4, none⟩ (.bool x.e.d)).setCell ⟨g, j * 6 + 5, none⟩ (.int .i64 x.n))

theorem own_setD {w : World} {base : Nat} {e : TypeId} {g m c n : Nat} {F : List Hdv} (h : w.ownsRow base e 6 (.slice (some ⟨g, 0, none⟩) m c) n (encD F)) (hmn : n = m) (j : Nat) (x : Hdv) :
    (setD w g j x).ownsRow base e 6 (.slice (some ⟨g, 0, none⟩) m c) n (encD (F.set j x)) := by
  subst hmn
  rw [← encD_set F j x]
  exact ((((((h.stored (j * 6) _).1.stored (j * 6 + 1) _).1).stored (j * 6 + 2) _).1.stored (j * 6 + 3) _).1.stored (j * 6 + 4) _).1.stored (j * 6 + 5) _ |>.1

/-- The type of a block's cells. -/
def tyO : Obj → Option TypeId
  | .cells _ t _ => some t
  | _ => none

/-- But for blocks of some types, from a block on, all old ones are as they were. -/
def Kp (B : Nat) (T : List TypeId) (w w' : World) : Prop :=
  w'.os = w.os ∧ w'.tape = w.tape ∧ w'.output = w.output ∧ w.heap.size ≤ w'.heap.size ∧ ∀ b o, w.heap[b]? = some o → (b < B ∨ ∀ t, tyO o = some t → t ∉ T) → w'.heap[b]? = some o

theorem Kp.refl (B : Nat) (T : List TypeId) (w : World) : Kp B T w w := ⟨rfl, rfl, rfl, Nat.le_refl _, fun _ _ h _ => h⟩

theorem Kp.trans {B : Nat} {T : List TypeId} {a b c : World} (h : Kp B T a b) (k : Kp B T b c) : Kp B T a c :=
  ⟨k.1.trans h.1, k.2.1.trans h.2.1, k.2.2.1.trans h.2.2.1, Nat.le_trans h.2.2.2.1 k.2.2.2.1, fun x o ho hx => k.2.2.2.2 x o (h.2.2.2.2 x o ho hx) hx⟩

theorem Kp.size {B : Nat} {T : List TypeId} {a b : World} (h : Kp B T a b) : a.heap.size ≤ b.heap.size := h.2.2.2.1

theorem Kp.mono {B B' : Nat} {T T' : List TypeId} {a b : World} (h : Kp B T a b) (hB : B' ≤ B) (hT : ∀ t ∈ T, t ∈ T') : Kp B' T' a b :=
  ⟨h.1, h.2.1, h.2.2.1, h.2.2.2.1, fun x o ho hx => h.2.2.2.2 x o ho (by
    rcases hx with hx | hx
    · exact .inl (by omega)
    · exact .inr (fun t ht hm => hx t ht (hT t hm)))⟩

theorem Kp.of_below {B : Nat} {T : List TypeId} {w w' : World} (h : Below w.heap.size w w') : Kp B T w w' :=
  ⟨h.os, h.tape, h.output, h.size, fun b o ho _ => (h.block b (Array.getElem?_eq_some_iff.1 ho).1).trans ho⟩

theorem Kp.drew {B : Nat} {T : List TypeId} {w w' : World} (h : Kp B T w w') : Kp B T w w'.drew := h

theorem Kp.alloc {B : Nat} {T : List TypeId} {w w' : World} (h : Kp B T w w') (o : Obj) : Kp B T w (w'.alloc o) :=
  h.trans (Kp.of_below ((Below.refl _ _).alloc (Nat.le_refl _) o))

theorem Kp.below {B : Nat} {T : List TypeId} {w w' : World} (h : Kp B T w w') (hB : B ≤ w.heap.size) : Below B w w' :=
  ⟨h.1, h.2.1, h.2.2.1, h.2.2.2.1, fun k hk => by
    have hk' : k < w.heap.size := by omega
    rw [h.2.2.2.2 k _ (Array.getElem?_eq_getElem hk') (.inl hk), Array.getElem?_eq_getElem hk']⟩

/-- A cell written in a block that may be turned. -/
theorem Kp.setCell {B : Nat} {T : List TypeId} {w w' : World} (h : Kp B T w w') {p : Addr} {o : Obj} (hp : w'.heap[p.block]? = some o) (hb : w.heap.size ≤ p.block ∨ (B ≤ p.block ∧ ∃ t, tyO o = some t ∧ t ∈ T)) (u : Value) : Kp B T w (w'.setCell p u) :=
  ⟨h.1, h.2.1, h.2.2.1, by simpa [World.setCell] using h.2.2.2.1, fun b o' ho hx => by
    have h1 := h.2.2.2.2 b o' ho hx
    refine (Below.heap_setCell w' p u b (fun e => ?_)).trans h1
    subst e
    rw [hp] at h1
    cases h1
    rcases hb with hb | ⟨hb, t, ht, hm⟩
    · have := (Array.getElem?_eq_some_iff.1 ho).1
      omega
    · rcases hx with hx | hx
      · omega
      · exact hx t ht hm⟩

/-- What an append turns. -/
theorem Kp.grown {B : Nat} {T : List TypeId} {w w' w2 : World} (h : Kp B T w w') {row : Option Nat} (hg : w'.grownBy w2 row) (hr : ∀ k, row = some k → w.heap.size ≤ k ∨ (B ≤ k ∧ ∃ o t, w'.heap[k]? = some o ∧ tyO o = some t ∧ t ∈ T)) : Kp B T w w2 :=
  ⟨hg.os.trans h.1, hg.tape.trans h.2.1, hg.output.trans h.2.2.1, Nat.le_trans h.2.2.2.1 hg.size, fun b o ho hx => by
    have h1 := h.2.2.2.2 b o ho hx
    refine (hg.block b (Array.getElem?_eq_some_iff.1 h1).1 (fun e => ?_)).trans h1
    rcases hr b e.symm with hb | ⟨hb, o2, t, ho2, ht, hm⟩
    · have := (Array.getElem?_eq_some_iff.1 ho).1
      omega
    · rw [h1] at ho2
      cases ho2
      rcases hx with hx | hx
      · omega
      · exact hx t ht hm⟩

/-- A row that is not turned. -/
theorem Kp.own {B : Nat} {T : List TypeId} {w w' : World} (h : Kp B T w w') {base : Nat} {e : TypeId} {size : Nat} {v : Value} {n : Nat} {xs : List Value} (hr : w.ownsRow base e size v n xs) (hx : e ∉ T ∨ ∀ g, v.ownBlock = some g → g < B) : w'.ownsRow base e size v n xs := by
  refine ⟨hr.1, ?_⟩
  rcases hr.2 with hn | ⟨g, cap, cur, rfl, hb, hg, rest⟩
  · exact .inl hn
  · refine .inr ⟨g, cap, cur, rfl, hb, h.2.2.2.2 g _ hg ?_, rest⟩
    rcases hx with hx | hx
    · exact .inr (fun t ht => by cases ht; exact hx)
    · exact .inl (hx g rfl)

theorem Kp.box {B : Nat} {T : List TypeId} {w w' : World} (h : Kp B T w w') {b : Nat} {cs : Array Value} {t : TypeId} {fr : Nat × Nat} (hb : w.heap[b]? = some (.cells cs t fr)) (hx : t ∉ T ∨ b < B) : w'.heap[b]? = some (.cells cs t fr) :=
  h.2.2.2.2 b _ hb (by
    rcases hx with hx | hx
    · exact .inr (fun t' ht => by cases ht; exact hx)
    · exact .inl hx)

/-- But for some blocks all old ones are as they were. -/
def Fr (w w' : World) (S : List (Option Nat)) : Prop :=
  w'.os = w.os ∧ w'.tape = w.tape ∧ w'.output = w.output ∧ w.heap.size ≤ w'.heap.size ∧ ∀ b, b < w.heap.size → some b ∉ S → w'.heap[b]? = w.heap[b]?

theorem Fr.refl (w : World) (S : List (Option Nat)) : Fr w w S := ⟨rfl, rfl, rfl, Nat.le_refl _, fun _ _ _ => rfl⟩

theorem Fr.trans {a b c : World} {S : List (Option Nat)} (h : Fr a b S) (k : Fr b c S) : Fr a c S :=
  ⟨k.1.trans h.1, k.2.1.trans h.2.1, k.2.2.1.trans h.2.2.1, Nat.le_trans h.2.2.2.1 k.2.2.2.1, fun x hx hS => (k.2.2.2.2 x (Nat.lt_of_lt_of_le hx h.2.2.2.1) hS).trans (h.2.2.2.2 x hx hS)⟩

/-- .. where the second set may hold new blocks. -/
theorem Fr.trans' {a b c : World} {S T : List (Option Nat)} (h : Fr a b S) (k : Fr b c T) (hT : ∀ x, some x ∈ T → x < a.heap.size → some x ∈ S) : Fr a c S :=
  ⟨k.1.trans h.1, k.2.1.trans h.2.1, k.2.2.1.trans h.2.2.1, Nat.le_trans h.2.2.2.1 k.2.2.2.1, fun x hx hS => (k.2.2.2.2 x (Nat.lt_of_lt_of_le hx h.2.2.2.1) (fun hx' => hS (hT x hx' hx))).trans (h.2.2.2.2 x hx hS)⟩

theorem Fr.of_below {w w' : World} (h : Below w.heap.size w w') (S : List (Option Nat)) : Fr w w' S :=
  ⟨h.os, h.tape, h.output, h.size, fun b hb' _ => h.block b hb'⟩

theorem Fr.alloc {a w : World} {S : List (Option Nat)} (h : Fr a w S) (o : Obj) : Fr a (w.alloc o) S :=
  h.trans (Fr.of_below ((Below.refl _ _).alloc (Nat.le_refl _) o) S)

theorem Fr.drew {a w : World} {S : List (Option Nat)} (h : Fr a w S) : Fr a w.drew S := h

theorem Fr.setCell {a w : World} {S : List (Option Nat)} (h : Fr a w S) {p : Addr} (hp : p.block < a.heap.size → some p.block ∈ S) (u : Value) : Fr a (w.setCell p u) S :=
  ⟨h.1, h.2.1, h.2.2.1, by simp [World.setCell]; exact h.2.2.2.1, fun b hb hS => (Below.heap_setCell w p u b (fun e => hS (by rw [e]; exact hp (by omega)))).trans (h.2.2.2.2 b hb hS)⟩

theorem Fr.grown {a w w' : World} {S : List (Option Nat)} {row : Option Nat} (h : Fr a w S) (hg : w.grownBy w' row) (hr : ∀ k, row = some k → k < a.heap.size → some k ∈ S) : Fr a w' S :=
  ⟨hg.os.trans h.1, hg.tape.trans h.2.1, hg.output.trans h.2.2.1, Nat.le_trans h.2.2.2.1 hg.size, fun b hb hS => (hg.block b (Nat.lt_of_lt_of_le hb h.2.2.2.1) (fun e => hS (hr b e.symm hb))).trans (h.2.2.2.2 b hb hS)⟩

theorem Fr.size {w w' : World} {S : List (Option Nat)} (h : Fr w w' S) : w.heap.size ≤ w'.heap.size := h.2.2.2.1

theorem Fr.below {w w' : World} {S : List (Option Nat)} (h : Fr w w' S) {B : Nat} (hB : B ≤ w.heap.size) (hS : ∀ x, some x ∈ S → B ≤ x) : Below B w w' :=
  ⟨h.1, h.2.1, h.2.2.1, h.2.2.2.1, fun k hk => h.2.2.2.2 k (by omega) (fun e => by have := hS k e; omega)⟩

/-- A row in a block that is not turned. -/
theorem Fr.own {w w' : World} {S : List (Option Nat)} (h : Fr w w' S) {base : Nat} {e : TypeId} {size : Nat} {v : Value} {n : Nat} {xs : List Value} (hr : w.ownsRow base e size v n xs) (hx : ∀ g, v.ownBlock = some g → some g ∉ S) : w'.ownsRow base e size v n xs := by
  refine ⟨hr.1, ?_⟩
  rcases hr.2 with hn | ⟨g, cap, cur, rfl, hb, hg, rest⟩
  · exact .inl hn
  · exact .inr ⟨g, cap, cur, rfl, hb, (h.2.2.2.2 g (Array.getElem?_eq_some_iff.1 hg).1 (hx g rfl)).trans hg, rest⟩

/-- What a call on the heads turns: their box and their row; the row afterwards is the same one, or new. -/
def PKeep (hb : Nat) (w : World) (v : Value) (w' : World) (v' : Value) : Prop :=
  Fr w w' [some hb, v.ownBlock] ∧ (v'.ownBlock = v.ownBlock ∨ ∀ g, v'.ownBlock = some g → w.heap.size ≤ g)

theorem PKeep.refl (hb : Nat) (w : World) (v : Value) : PKeep hb w v w v := ⟨Fr.refl _ _, .inl rfl⟩

theorem PKeep.of_below {hb : Nat} {w w' : World} {v : Value} (h : Below w.heap.size w w') : PKeep hb w v w' v := ⟨Fr.of_below h _, .inl rfl⟩

theorem PKeep.trans {hb : Nat} {a b c : World} {v v1 v2 : Value} (h : PKeep hb a v b v1) (k : PKeep hb b v1 c v2) : PKeep hb a v c v2 := by
  refine ⟨h.1.trans' k.1 (fun x hx hlt => ?_), ?_⟩
  · simp only [List.mem_cons, List.not_mem_nil, or_false] at hx ⊢
    rcases hx with hx | hx
    · exact .inl hx
    · rcases h.2 with e | e
      · exact .inr (hx.trans e)
      · have := e x hx.symm; omega
  · rcases k.2 with e | e
    · rcases h.2 with e' | e'
      · exact .inl (e.trans e')
      · exact .inr (fun g hg => e' g (by rw [← e]; exact hg))
    · exact .inr (fun g hg => Nat.le_trans h.1.size (e g hg))

/-- The heads of a merger in memory: the box, the row. -/
structure PileD (w : World) (B hb : Nat) (v : Value) (L : List Hdv) : Prop where
  box : w.heap[hb]? = some (.cells #[v] 84 (0, 0))
  base : B ≤ hb
  row : w.ownsRow B 100 6 v L.length (encD L)

theorem PileD.keep {w w' : World} {B B' hb : Nat} {v : Value} {L : List Hdv} {T : List TypeId} (h : PileD w B hb v L) (hk : Kp B' T w w') (h1 : 84 ∉ T) (h2 : 100 ∉ T) : PileD w' B hb v L :=
  ⟨hk.box h.box (.inl h1), h.base, hk.own h.row (.inl h2)⟩

theorem PileD.cell {w : World} {B hb : Nat} {v : Value} {L : List Hdv} (h : PileD w B hb v L) : w.cell? ⟨hb, 0, none⟩ = some v ∧ w.frozen? ⟨hb, 0, none⟩ = false := by
  have hb := h.box
  exact ⟨by simp [World.cell?, hb], by simp [World.frozen?, hb]⟩

theorem PileD.at {w : World} {B hb : Nat} {v : Value} {L : List Hdv} (h : PileD w B hb v L) {j : Nat} (hj : j < L.length) :
    ∃ g cap, v = .slice (some ⟨g, 0, none⟩) L.length cap := by
  obtain ⟨p, cap, rfl, _, _, hr⟩ := own_rd h.row
  obtain ⟨g, rfl, _⟩ := hr (by omega)
  exact ⟨g, cap, rfl⟩

theorem PileD.lt {w : World} {B hb : Nat} {v : Value} {L : List Hdv} (h : PileD w B hb v L) : hb < w.heap.size := (Array.getElem?_eq_some_iff.1 h.box).1

/-- The box and the row lie apart. -/
theorem PileD.apart {w : World} {B hb : Nat} {v : Value} {L : List Hdv} (h : PileD w B hb v L) : v.ownBlock ≠ some hb := by
  intro e
  rcases h.row.2 with ⟨k, _⟩ | ⟨g, c, cur, k, _, k2, _⟩
  · rw [k] at e; cases e
  · rw [k] at e
    cases e
    rw [h.box] at k2
    cases k2

/-- By types. -/
theorem PileD.kp {w w' : World} {B hb : Nat} {v v' : Value} {L : List Hdv} (h : PileD w B hb v L) (k : PKeep hb w v w' v') : Kp B [84, 100] w w' := by
  refine ⟨k.1.1, k.1.2.1, k.1.2.2.1, k.1.2.2.2.1, fun b o ho hx => ?_⟩
  refine (k.1.2.2.2.2 b (Array.getElem?_eq_some_iff.1 ho).1 (fun hm => ?_)).trans ho
  simp only [List.mem_cons, List.not_mem_nil, or_false] at hm
  rcases hm with hm | hm
  · cases hm
    have hb2 := h.box
    rw [hb2] at ho
    cases ho
    rcases hx with hx | hx
    · have := h.base; omega
    · exact hx _ rfl (by simp)
  · rcases h.row.2 with ⟨e, _⟩ | ⟨g, c, cur, e, hg, hgh, _⟩
    · rw [e] at hm; cases hm
    · rw [e] at hm
      cases hm
      rw [hgh] at ho
      cases ho
      rcases hx with hx | hx
      · have hx' : g < B := hx
        omega
      · exact hx _ rfl (by simp)
end Go.Proofs.Ytahdaccmokjgpaa

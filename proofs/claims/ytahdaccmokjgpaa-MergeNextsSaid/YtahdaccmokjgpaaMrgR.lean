/-
  A merger RUN to its end (plain); lists of lists in memory.
-/
import Derived.Test.YtahdaccmokjgpaaOf
namespace Go.Proofs.Ytahdaccmokjgpaa
open Go.RowKit ArgK
set_option linter.unusedVariables false

/-- What a merger tells, one by one, and the refusal in the end. -/
def Mst.run (bottom : Bool) : Nat → Mst → List Ent × Int
  | 0, m => ([], 0)
  | k + 1, m =>
    if (m.next bottom).1.2.2 ≠ 0 then ([], (m.next bottom).1.2.2) else
    if (m.next bottom).1.2.1 = false then ([], 0) else
    ((m.next bottom).1.1 :: (Mst.run bottom k (m.next bottom).2).1, (Mst.run bottom k (m.next bottom).2).2)

/-- A merger over lists. -/
def Mst.new (lists : List (List Ent)) : Mst := ⟨lists.map (fun L => ⟨L, 0, false, 0⟩), lists.map (fun _ => none), false, 0⟩

theorem new_ok (lists : List (List Ent)) : MOk lists.length (Mst.new lists) :=
  ⟨by simp [Mst.new], by simp [Mst.new], fun i e h => by
    simp only [Mst.new, List.getElem?_map] at h
    cases hl : lists[i]? with
    | none => rw [hl] at h; simp at h
    | some L => rw [hl] at h; simp at h⟩

theorem new_fresh (lists : List (List Ent)) : Fresh 0 (Mst.new lists) := by
  intro j st _ h
  simp only [Mst.new, List.getElem?_map] at h ⊢
  cases hl : lists[j]? with
  | none => rw [hl] at h; simp at h
  | some L => rw [hl] at h; simp at h; subst h; exact ⟨rfl, by rfl⟩

theorem new_stands (lists : List (List Ent)) : stands (Mst.new lists).F = [] := by
  unfold stands
  have : ∀ (l : List (List Ent)) (k : Nat), standsFrom k (l.map (fun _ => (none : Option Ent))) = [] := by
    intro l
    induction l with
    | nil => intro k; rfl
    | cons a l ih => intro k; rw [List.map_cons, standsFrom]; exact ih _
  exact this lists 0

theorem go_left {bottom : Bool} {n : Nat} : ∀ (f : Nat) (m : Mst), MOk n m → (Mst.go bottom f m).1.2.1 = true → (Mst.go bottom f m).2.left < m.left
  | 0, m, _, h => by simp [Mst.go] at h
  | f + 1, m, hm, h => by
    by_cases hb : m.bad = 0
    · rw [go_step hb] at h ⊢
      by_cases h1 : m.step.1.bad ≠ 0
      · rw [if_pos h1] at h; simp at h
      · rw [if_neg h1] at h ⊢
        by_cases h2 : m.step.2.2 = false ∨ bottom = false ∨ m.step.2.1.d = false
        · rw [if_pos h2] at h ⊢
          exact step_left hm hb h
        · rw [if_neg h2] at h ⊢
          have h3 := go_left f m.step.1 (step_ok hm) h
          have h4 : m.step.2.2 = true := by cases h5 : m.step.2.2; exact absurd (.inl h5) h2; rfl
          have h6 := step_left hm hb h4
          omega
    · rw [go_bad hb] at h
      simp at h

theorem next_left {bottom : Bool} {n : Nat} {m : Mst} (hm : MOk n m) (h : (m.next bottom).1.2.1 = true) : (m.next bottom).2.left < m.left := by
  unfold Mst.next at h ⊢
  by_cases hb : m.bad = 0 ∧ m.begun = false
  · rw [if_pos hb] at h ⊢
    have h1 := go_left _ _ (begin_ok hm) h
    have h2 : m.begin.left ≤ m.left := asks_left _ { m with begun := true }
    exact Nat.lt_of_lt_of_le h1 h2
  · rw [if_neg hb] at h ⊢
    exact go_left _ _ hm h

/-- A readable list of lists below block B. -/
def LLs (w : World) (B : Nat) (p : Option Addr) (lists : List (List Ent)) : Prop :=
  ∀ (i : Nat) (L : List Ent), lists[i]? = some L → ∃ (a : Addr) (q : Option Addr) (c : Nat), p = some a ∧ a.block < B ∧ w.cell? (a.add i) = some (.slice q L.length c) ∧ L.length ≤ c ∧ EL w B q L

theorem EL.esl {w : World} {B : Nat} {q : Option Addr} {L : List Ent} (h : EL w B q L) (c : Nat) : ESl w (.slice q L.length c) L := by
  refine ⟨q, c, rfl, fun i x hx => ?_⟩
  obtain ⟨a, rfl, _, h0, h1, h2, h3, h4⟩ := h i x hx
  refine ⟨a, rfl, fun k hk => ?_⟩
  rw [add_field _ _ _ (by decide)] at h1 h2 h3 h4
  rcases (show k = 0 ∨ k = 1 ∨ k = 2 ∨ k = 3 ∨ k = 4 by omega) with rfl | rfl | rfl | rfl | rfl
  · exact h0
  · exact h1
  · exact h2
  · exact h3
  · exact h4

theorem LLs.below {w w' : World} {B : Nat} {p : Option Addr} {lists : List (List Ent)} (h : LLs w B p lists) (hb : Below B w w') : LLs w' B p lists := by
  intro i L hL
  obtain ⟨a, q, c, rfl, h1, h2, h3, h4⟩ := h i L hL
  refine ⟨a, q, c, rfl, h1, ?_, h3, h4.below hb (Nat.le_refl _)⟩
  have e : (a.add i).block = a.block := add_blockE a i
  exact (World.cell?_of_block (hb.block _ (by rw [e]; exact h1))).trans h2

/-- The boxes of lists' sources. -/
def OfB (B : Nat) (w : World) (bs : List Nat) (lists : List (List Ent)) : Prop :=
  bs.Nodup ∧ (∀ b ∈ bs, b < w.heap.size) ∧ ∀ (i b : Nat) (L : List Ent), bs[i]? = some b → lists[i]? = some L → B ≤ b ∧ LstIs w B b L

theorem OfB.kp {B : Nat} {w w' : World} {bs : List Nat} {lists : List (List Ent)} {T : List TypeId} (h : OfB B w bs lists) (k : Kp B T w w') (hT : 25 ∉ T) : OfB B w' bs lists :=
  ⟨h.1, fun b hb => Nat.lt_of_lt_of_le (h.2.1 b hb) k.size, fun i b L hb hL => ⟨(h.2.2 i b L hb hL).1, (h.2.2 i b L hb hL).2.kp k hT⟩⟩

theorem OfB.ofI {B : Nat} {w : World} {bs : List Nat} {lists : List (List Ent)} (h : OfB B w bs lists) (hl : bs.length = lists.length) (hz : ∀ L ∈ lists, L.length ≤ 4398046511104) : OfI B bs w (Mst.new lists).S := by
  refine ⟨by simp [Mst.new, hl], h.1, fun i b st hb hs => ?_⟩
  simp only [Mst.new, List.getElem?_map] at hs
  cases hL : lists[i]? with
  | none => rw [hL] at hs; simp at hs
  | some L =>
    rw [hL] at hs
    simp at hs
    subst hs
    obtain ⟨h1, h2⟩ := h.2.2 i b L hb hL
    exact ⟨rfl, rfl, hz L (List.mem_of_getElem? hL), h1, by simpa using h2⟩

/-- What Merge answers, over lists that rise. -/
def mergeM (lists : List (List Ent)) (bottom : Bool) : List Ent × Int := Mst.run bottom ((Mst.new lists).left + 1) (Mst.new lists)
end Go.Proofs.Ytahdaccmokjgpaa

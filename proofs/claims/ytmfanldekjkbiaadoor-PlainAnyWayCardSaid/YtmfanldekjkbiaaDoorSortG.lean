/-
  SORTED ROWS: what slices.SortFunc's contract says of a row of elements of k cells, in the words of owned rows.
-/
import Derived.Test.YtmfanldekjkbiaaDoorRows2
import Derived.Test.YtmfanldekjkbiaaDoorApp
import Derived.Shelf.SlSortCmp.NoneTotal
namespace Go.Proofs.YtmfanldekjkbiaaDoor
open Go.Shelf Go.RowKit Go.Lib Go.Sort
set_option linter.unusedVariables false

variable {α : Type}

theorem flat_length (enc : α → List Value) (k : Nat) (hk : ∀ x, (enc x).length = k) : ∀ L : List α, (L.flatMap enc).length = L.length * k
  | [] => by simp
  | x :: L => by rw [List.flatMap_cons, List.length_append, hk, flat_length enc k hk L, List.length_cons, Nat.add_mul, Nat.one_mul, Nat.add_comm]

theorem flat_get (enc : α → List Value) (k : Nat) (hk : ∀ x, (enc x).length = k) : ∀ (L : List α) (j : Nat) (x : α), L[j]? = some x → ∀ c, c < k → (L.flatMap enc)[j * k + c]? = (enc x)[c]?
  | [], _, _, h, _, _ => by simp at h
  | y :: L, 0, x, h, c, hc => by
    simp at h; subst h
    rw [List.flatMap_cons, Nat.zero_mul, Nat.zero_add, List.getElem?_append_left (by rw [hk]; exact hc)]
  | y :: L, j + 1, x, h, c, hc => by
    rw [List.flatMap_cons, show (j + 1) * k + c = (j * k + c) + (enc y).length by rw [hk, Nat.add_mul, Nat.one_mul]; omega, List.getElem?_append_right (Nat.le_add_left _ _), Nat.add_sub_cancel]
    exact flat_get enc k hk L j x (by simpa using h) c hc

variable [Inhabited α]

theorem flatK_list (enc : α → List Value) (k : Nat) (hk : ∀ x, (enc x).length = k) (L : List α) : flatK enc k L.toArray = (L.flatMap enc).toArray := by
  apply Array.ext
  · simp [flat_length enc k hk]
  · intro t h1 h2
    have ht : t < L.length * k := by simpa using h1
    have k0 : 0 < k := by rcases Nat.eq_zero_or_pos k with h | h; · subst h; simp at ht
                          · exact h
    have hd : t / k < L.length := (Nat.div_lt_iff_lt_mul k0).2 ht
    have hm : t % k < k := Nat.mod_lt _ k0
    have e := flat_get enc k hk L (t / k) L[t / k] (List.getElem?_eq_getElem hd) (t % k) hm
    rw [Nat.div_add_mod' t k] at e
    have g := get_flatK enc k L.toArray t (by simpa using ht)
    rw [getElem!_pos (flatK enc k L.toArray) t h1] at g
    rw [g]
    have e1 : (L.toArray)[t / k]! = L[t / k] := by simp [hd]
    rw [e1]
    have hm' : t % k < (enc L[t / k]).length := by rw [hk]; exact hm
    rw [getElem!_pos (enc L[t / k]) (t % k) hm']
    rw [List.getElem?_eq_getElem hm', List.getElem?_eq_getElem (by simpa using h2)] at e
    exact (Option.some.inj e).symm

theorem take_put (cur : Array Value) (xs : List Value) (h : xs.length ≤ cur.size) : (putCells id 0 xs.toArray cur).toList.take xs.length = xs := by
  apply List.ext_getElem?
  intro j
  by_cases hj : j < xs.length
  · rw [List.getElem?_take_of_lt hj, Array.getElem?_toList]
    simp [putCells, hj, show j < cur.size by omega]
  · rw [List.getElem?_take_eq_none (by omega), List.getElem?_eq_none (by omega)]

theorem heap_put {w : World} {g n : Nat} {os : Array Obj} {cur : Array Value} {e : TypeId} {fr : Nat × Nat} (d : Array Value) (hb : w.heap[g]? = some (.cells cur e fr)) :
    (grow (putRow id (Sort.ahead w n) g 0 d) os).heap[g]? = some (.cells (putCells id 0 d cur) e fr) := by
  have hg : g < w.heap.size := (Array.getElem?_eq_some_iff.1 hb).1
  rw [heap_grow_old _ _ (by simpa using hg)]
  simp [putRow, mapBlock, Sort.ahead, Array.getElem?_modify, hb, onCells]

theorem grown_put {w : World} {g n : Nat} {os : Array Obj} (d : Array Value) : w.grownBy (grow (putRow id (Sort.ahead w n) g 0 d) os) (some g) := by
  refine ⟨rfl, rfl, rfl, by simp, fun k hk hne => ?_⟩
  rw [heap_grow_old _ _ (by simpa using hk)]
  have : g ≠ k := fun e => hne (by rw [e])
  simp [putRow, mapBlock, Sort.ahead, Array.getElem?_modify, this]

theorem own_holdsK (enc : α → List Value) (k : Nat) (hk : ∀ x, (enc x).length = k) {w : World} {base : Nat} {e : TypeId} {g m cap : Nat} {L : List α} (h : w.ownsRow base e k (.slice (some ⟨g, 0, none⟩) m cap) m (L.flatMap enc)) : HoldsK enc k w g 0 L.toArray := by
  intro j hj
  rw [flatK_list enc k hk] at hj ⊢
  have hj' : j < (L.flatMap enc).length := by simpa using hj
  have hl := h.1
  refine ⟨?_, by rw [Nat.zero_add]; exact h.frozenAt j⟩
  rw [Nat.zero_add, h.cellAt j (by omega), List.getElem?_eq_getElem hj']
  simp [List.getElem?_eq_getElem hj']

/-- Behind the sort the same slice owns the new list. -/
theorem own_sortedK (enc : α → List Value) (k : Nat) (hk : ∀ x, (enc x).length = k) {w : World} {base : Nat} {e : TypeId} {g m cap n : Nat} {L : List α} (h : w.ownsRow base e k (.slice (some ⟨g, 0, none⟩) m cap) m (L.flatMap enc)) (T : List α) (hT : T.length = L.length) (os : Array Obj) :
    (sortWorldK enc k w g 0 n T.toArray os).ownsRow base e k (.slice (some ⟨g, 0, none⟩) m cap) m (T.flatMap enc) ∧ w.grownBy (sortWorldK enc k w g 0 n T.toArray os) (some g) := by
  have hl := h.1
  have hT' : (T.flatMap enc).length = m * k := by rw [flat_length enc k hk, hT, ← hl, flat_length enc k hk]
  unfold sortWorldK putRowK
  rw [flatK_list enc k hk]
  refine ⟨⟨hT', ?_⟩, grown_put _⟩
  rcases h.2 with ⟨h', _⟩ | ⟨g', cap', cur, h', hb, hg, hnc, hcm, hcs, htake⟩
  · simp at h'
  · simp only [Value.slice.injEq, Option.some.injEq, Addr.mk.injEq, and_true, true_and] at h'
    obtain ⟨rfl, rfl⟩ := h'
    refine .inr ⟨g, cap, _, rfl, hb, heap_put _ hg, hnc, hcm, by simpa [putCells] using hcs, ?_⟩
    rw [← hT']
    exact take_put cur _ (by rw [hT', hcs]; exact Nat.mul_le_mul_right _ hnc)

theorem permIn_list {d d' : Array α} (h : PermIn 0 d.size d d') : d'.toList.Perm d.toList := by
  obtain ⟨hs, _, hp⟩ := h
  rw [show d'.extract 0 d.size = d' by rw [← hs]; simp, show d.extract 0 d.size = d by simp] at hp
  exact hp

theorem sortedIn_list {lt : α → α → Bool} {d : Array α} (h : SortedIn lt 0 d.size d) : d.toList.Pairwise (fun x y => lt y x = false) := by
  rw [List.pairwise_iff_getElem]
  intro i j hi hj hij
  have hi' : i < d.size := by simpa using hi
  have hj' : j < d.size := by simpa using hj
  have := h i j (Nat.zero_le _) hij hj'
  rw [getElem!_pos d i hi', getElem!_pos d j hj'] at this
  simpa using this
end Go.Proofs.YtmfanldekjkbiaaDoor

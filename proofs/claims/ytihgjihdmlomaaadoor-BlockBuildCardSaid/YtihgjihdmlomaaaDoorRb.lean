/-
  A slice of bytes that a conversion laid: it is read, and appended to in place while there is room.
-/
import Derived.Test.YtihgjihdmlomaaaDoorApp
import Derived.Test.YtihgjihdmlomaaaDoorMem
import Derived.Deep.AppendSrc
import Derived.Deep.MidRow
import Derived.Lib.AppendStr
import Derived.Lib.UnsafeStr
namespace Go.Proofs.YtihgjihdmlomaaaDoor
open Go.RowKit
set_option linter.unusedVariables false

/-- The bytes l, in block g, with room up to cap. -/
structure Rb (W : World) (v : Value) (l : List UInt8) (g cap : Nat) : Prop where
  val : v = .slice (some ⟨g, 0, none⟩) l.length cap
  le : l.length ≤ cap
  max : cap ≤ maxLen
  lt : g < W.heap.size
  holds : ∀ j, j < l.length → W.cell? ⟨g, j, none⟩ = (l.map by8)[j]?
  spare : ∀ j, j < cap → (W.cell? ⟨g, j, none⟩).isSome = true ∧ W.frozen? ⟨g, j, none⟩ = false

theorem Rb.keep {W W' : World} {v : Value} {l : List UInt8} {g cap : Nat} (h : Rb W v l g cap) (e : W'.heap[g]? = W.heap[g]?) (hs : W.heap.size ≤ W'.heap.size) : Rb W' v l g cap :=
  ⟨h.val, h.le, h.max, Nat.lt_of_lt_of_le h.lt hs, fun j hj => (World.cell?_of_block (a := ⟨g, j, none⟩) e).trans (h.holds j hj), fun j hj => ⟨by rw [World.cell?_of_block (a := ⟨g, j, none⟩) e]; exact (h.spare j hj).1, (World.frozen?_of_block (a := ⟨g, j, none⟩) e).trans (h.spare j hj).2⟩⟩

theorem Rb.below {W W' : World} {v : Value} {l : List UInt8} {g cap : Nat} (h : Rb W v l g cap) (hb : Below W.heap.size W W') : Rb W' v l g cap := h.keep (hb.block g h.lt) hb.size

theorem grown_setCells (g : Nat) : ∀ (vs : List Value) (o : Nat) (w : World), w.grownBy (w.setCells g o vs) (some g)
  | [], _, w => grown_refl w _
  | v :: r, o, w => by
    rw [World.setCells]
    exact grown_trans (grown_set (grown_refl w (some g)) o v) (grown_setCells g r (o + 1) _)

/-- []byte(s). -/
theorem Rb.of_string (w : World) (t : TypeId) (s : ByteArray) (hs : s.size ≤ maxLen) (cap : Nat) (hc : s.size ≤ cap) (hm : cap ≤ maxLen) :
    Rb (w.drew.alloc (.cells (bytesRow s cap) t ((bytesRow s cap).size, (bytesRow s cap).size + 1))) (.slice (some ⟨w.heap.size, 0, none⟩) s.size cap) s.data.toList w.heap.size cap := by
  have hsz : (bytesRow s cap).size = cap := by
    have e : s.data.size = s.size := rfl
    simp only [bytesRow, Array.size_append, Array.size_map, Array.size_replicate]
    omega
  have hb : (w.drew.alloc (.cells (bytesRow s cap) t ((bytesRow s cap).size, (bytesRow s cap).size + 1))).heap[w.heap.size]? = some (.cells (bytesRow s cap) t (cap, cap + 1)) := by
    have := heap_alloc_new w.drew (.cells (bytesRow s cap) t ((bytesRow s cap).size, (bytesRow s cap).size + 1))
    rw [hsz] at this ⊢
    exact this
  refine ⟨rfl, hc, hm, ?_, fun j hj => ?_, fun j hj => ⟨?_, ?_⟩⟩
  · exact (Array.getElem?_eq_some_iff.1 hb).1
  · rw [cell_of_row _ _ j _ _ _ hb]
    have hi' : j < s.data.size := by simpa using hj
    unfold bytesRow
    rw [Array.getElem?_append_left (by simpa using hi')]
    simp
    rfl
  · rw [cell_of_row _ _ j _ _ _ hb, Array.getElem?_eq_getElem (by omega)]
    rfl
  · simp only [World.frozen?, hb, Bool.and_eq_false_iff, decide_eq_false_iff_not]
    left
    omega

theorem src_cells (s : ByteArray) : byteCells s = s.data.toList.map by8 := rfl

/-- append(b, s...): in place or in a new block. -/
theorem run_append_rb {P : Program} (w : World) (t u ty e : TypeId) (i : TypeInfo) (ht : P.underlying t = some (.slice e)) (hu : P.underlying u = some .string) (hi : P.info? e = some i) (hz : i.zero = some (.int .u8 0)) (h1 : i.size = 1) (hb : i.bytes = 1)
    {v : Value} {l : List UInt8} {g cap : Nat} (h : Rb w v l g cap) (s : ByteArray) (hlen : l.length + s.size ≤ 140737488355328) :
    ∃ v' w' g' cap', (Builtin.append_ #[t, u] ty #[v, .string s]).run P w = .ok v' w' ∧ Rb w' v' (l ++ s.data.toList) g' cap' ∧ w.grownBy w' (some g) ∧ (g' = g ∨ g' = w.heap.size) := by
  have hv := h.val
  subst hv
  have hsl : s.data.toList.length = s.size := rfl
  have hal : (l ++ s.data.toList).length = l.length + s.size := by rw [List.length_append, hsl]
  by_cases hroom : l.length + s.size ≤ cap
  · have hS : Src P i.size u (.string s) s.size (byteCells s) w := by rw [h1]; exact Src.ofString w hu s
    have hnl : (byteCells s).length = s.size := by rw [src_cells, List.length_map, hsl]
    have hr := run_append_room_src (P := P) w t u ty e i ht hi g 0 l.length cap (.string s) s.size (byteCells s) hS hroom (fun j hj => (h.spare _ (by rw [h1]; omega)).1) (fun j hj => (h.spare _ (by rw [h1]; omega)).2)
    rw [h1, Nat.zero_add, Nat.mul_one] at hr
    refine ⟨_, _, g, cap, hr, ⟨by rw [hal], by rw [hal]; exact hroom, h.max, ?_, fun j hj => ?_, fun j hj => ⟨?_, ?_⟩⟩, grown_setCells g _ _ w, .inl rfl⟩
    · exact Nat.lt_of_lt_of_le h.lt (grown_setCells g _ _ w).size
    · rw [hal] at hj
      by_cases hjl : j < l.length
      · rw [World.cell?_setCells_out g _ _ w ⟨g, j, none⟩ (fun _ _ => .inl hjl), h.holds j hjl, List.map_append, List.getElem?_append_left (by simpa using hjl)]
      · have hin := World.cell?_setCells_in g (byteCells s) l.length w (fun q hq => (h.spare _ (by omega)).1) (j - l.length) (by omega)
        rw [show l.length + (j - l.length) = j by omega] at hin
        rw [hin, List.map_append, List.getElem?_append_right (by simp; omega), List.length_map, ← src_cells]
        exact (List.getElem?_eq_getElem (by omega)).symm
    · exact World.isSome_setCells g _ _ w _ (h.spare j hj).1
    · rw [World.frozen?_setCells]
      exact (h.spare j hj).2
  · have hr := Lib.run_append_grow_string (P := P) w t u ty e i (.int .u8 0) ht hu hi hz ⟨g, 0, none⟩ l.length cap (l.map by8) (by rw [h1]; simp) (fun j u hu => by
      have hj : j < l.length := by
        have := (List.getElem?_eq_some_iff.1 hu).1
        simpa using this
      rw [add0, h.holds j hj]
      exact hu) s (by omega) (by omega) (by rw [hb]; exact growslice_fits (by omega) (by omega))
    have hge := grownCap_ge w (l.length + s.size) cap e
    have hmx := grownCap_le_maxLen w (l.length + s.size) cap e (by unfold maxLen; omega)
    obtain ⟨c', hc'⟩ : ∃ c', grownCap w (l.length + s.size) cap e = c' := ⟨_, rfl⟩
    rw [hc'] at hr hge hmx
    have hz1 : (Value.int IntKind.u8 0).cells.size = 1 := rfl
    obtain ⟨C, hC⟩ : ∃ C, (l.map by8).toArray ++ (Lib.strCells s).toArray ++ Builtin.zeroCells (Value.int IntKind.u8 0).cells (c' - (l.length + s.size)) = C := ⟨_, rfl⟩
    have hCs : C.size = c' := by
      rw [← hC]
      simp only [Array.size_append, List.size_toArray, size_zeroCells, hz1, List.length_map, Lib.strCells_length]
      omega
    have hCg : ∀ j, j < l.length + s.size → C[j]? = ((l ++ s.data.toList).map by8)[j]? := fun j hj => by
      rw [← hC, Array.getElem?_append_left (by simp only [Array.size_append, List.size_toArray, List.length_map, Lib.strCells_length]; exact hj), List.append_toArray, List.getElem?_toArray, List.map_append]
      rfl
    rw [hC] at hr
    have hnew : (w.drew.alloc (.cells C e)).heap[w.heap.size]? = some (.cells C e (0, 0)) := heap_alloc_new w.drew (.cells C e)
    refine ⟨_, _, w.heap.size, c', hr, ⟨by rw [hal], by rw [hal]; exact hge, hmx, ?_, fun j hj => ?_, fun j hj => ⟨?_, ?_⟩⟩, ⟨rfl, rfl, rfl, by simp, fun k hk _ => Below.heap_alloc w.drew _ k hk⟩, .inr rfl⟩
    · simp
    · rw [hal] at hj
      rw [cell_of_row _ _ j _ _ _ hnew]
      exact hCg j hj
    · rw [cell_of_row _ _ j _ _ _ hnew, Array.getElem?_eq_getElem (by omega)]
      rfl
    · exact frozen_of_row _ _ j _ _ hnew
end Go.Proofs.YtihgjihdmlomaaaDoor

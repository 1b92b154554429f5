/-
  PILES in memory: a new one; a hit put on it.
-/
import Derived.Test.YtmfanldekjkbiaaDoorHasM
import Derived.Deep.AppendLies
import Derived.Deep.RegionLaw
import Derived.BigRegion
import Derived.RegionTactic
namespace Go.Proofs.YtmfanldekjkbiaaDoor
open Go.RowKit
set_option linter.unusedVariables false

theorem hitinfo : (Tryd.prog.info? 36).map (fun i => (i.zero, i.size, i.bytes)) = some (some (.agg #[.int .i64 0, .int .i64 0, .string ⟨#[]⟩]), 3, 32) := by kernel_rfl

/-- But for some blocks all old ones are as they were. -/
def Fr (w w' : World) (S : List (Option Nat)) : Prop :=
  w'.os = w.os ∧ w'.tape = w.tape ∧ w'.output = w.output ∧ w.heap.size ≤ w'.heap.size ∧ ∀ b, b < w.heap.size → some b ∉ S → w'.heap[b]? = w.heap[b]?

theorem Fr.refl (w : World) (S : List (Option Nat)) : Fr w w S := ⟨rfl, rfl, rfl, Nat.le_refl _, fun _ _ _ => rfl⟩

theorem Fr.trans {a b c : World} {S : List (Option Nat)} (h : Fr a b S) (k : Fr b c S) : Fr a c S :=
  ⟨k.1.trans h.1, k.2.1.trans h.2.1, k.2.2.1.trans h.2.2.1, Nat.le_trans h.2.2.2.1 k.2.2.2.1, fun x hx hS => (k.2.2.2.2 x (Nat.lt_of_lt_of_le hx h.2.2.2.1) hS).trans (h.2.2.2.2 x hx hS)⟩

/-- .. where the second set may hold new blocks. -/
theorem Fr.trans' {a b c : World} {S T : List (Option Nat)} (h : Fr a b S) (k : Fr b c T) (hT : ∀ x, some x ∈ T → x < a.heap.size → some x ∈ S) : Fr a c S :=
  ⟨k.1.trans h.1, k.2.1.trans h.2.1, k.2.2.1.trans h.2.2.1, Nat.le_trans h.2.2.2.1 k.2.2.2.1, fun x hx hS => (k.2.2.2.2 x (Nat.lt_of_lt_of_le hx h.2.2.2.1) (fun hx' => hS (hT x hx' hx))).trans (h.2.2.2.2 x hx hS)⟩

theorem Fr.of_gr {w w' : World} (h : Gr w w') (S : List (Option Nat)) : Fr w w' S := by
  have hb := h.below
  exact ⟨hb.os, hb.tape, hb.output, hb.size, fun b hb' _ => hb.block b hb'⟩

theorem Fr.alloc {a w : World} {S : List (Option Nat)} (h : Fr a w S) (o : Obj) : Fr a (w.alloc o) S :=
  h.trans (Fr.of_gr ((Gr.refl w).alloc o) S)

theorem Fr.drew {a w : World} {S : List (Option Nat)} (h : Fr a w S) : Fr a w.drew S := h

theorem Fr.setCell {a w : World} {S : List (Option Nat)} (h : Fr a w S) {p : Addr} (hp : p.block < a.heap.size → some p.block ∈ S) (u : Value) : Fr a (w.setCell p u) S :=
  ⟨h.1, h.2.1, h.2.2.1, by simp [World.setCell]; exact h.2.2.2.1, fun b hb hS => (Below.heap_setCell w p u b (fun e => hS (by rw [e]; exact hp (by omega)))).trans (h.2.2.2.2 b hb hS)⟩

theorem Fr.grown {a w w' : World} {S : List (Option Nat)} {row : Option Nat} (h : Fr a w S) (hg : w.grownBy w' row) (hr : ∀ k, row = some k → k < a.heap.size → some k ∈ S) : Fr a w' S :=
  ⟨hg.os.trans h.1, hg.tape.trans h.2.1, hg.output.trans h.2.2.1, Nat.le_trans h.2.2.2.1 hg.size, fun b hb hS => (hg.block b (Nat.lt_of_lt_of_le hb h.2.2.2.1) (fun e => hS (hr b e.symm hb))).trans (h.2.2.2.2 b hb hS)⟩

theorem Fr.below {w w' : World} {S : List (Option Nat)} (h : Fr w w' S) {B : Nat} (hB : B ≤ w.heap.size) (hS : ∀ x, some x ∈ S → B ≤ x) : Below B w w' :=
  ⟨h.1, h.2.1, h.2.2.1, h.2.2.2.1, fun k hk => h.2.2.2.2 k (by omega) (fun e => by have := hS k e; omega)⟩

/-- A pile: its box, its set, its row. -/
structure PileIs (w : World) (pb mb : Nat) (v : Value) (L : List Hv) : Prop where
  box : w.heap[pb]? = some (.cells #[v, .func (.func 55) #[] #[], .map (some mb)] 99 (0, 0))
  row : w.ownsRow 0 36 3 v L.length (encH L)
  has : HasIs w mb L
  nodup : L.Nodup
  good : ∀ x ∈ L, GoodH x

theorem PileIs.lt {w : World} {pb mb : Nat} {v : Value} {L : List Hv} (h : PileIs w pb mb v L) : pb < w.heap.size := by
  rcases Nat.lt_or_ge pb w.heap.size with k | k
  · exact k
  · have := h.box; rw [Array.getElem?_eq_none k] at this; cases this

theorem PileIs.cells {w : World} {pb mb : Nat} {v : Value} {L : List Hv} (h : PileIs w pb mb v L) :
    w.cell? ⟨pb, 0, none⟩ = some v ∧ w.cell? ⟨pb, 1, none⟩ = some (.func (.func 55) #[] #[]) ∧ w.cell? ⟨pb, 2, none⟩ = some (.map (some mb)) ∧ ∀ j, w.frozen? ⟨pb, j, none⟩ = false := by
  have hb := h.box
  refine ⟨?_, ?_, ?_, fun j => ?_⟩
  · simp [World.cell?, hb]
  · simp [World.cell?, hb]
  · simp [World.cell?, hb]
  · simp [World.frozen?, hb]

theorem PileIs.apart {w : World} {pb mb : Nat} {v : Value} {L : List Hv} (h : PileIs w pb mb v L) : mb ≠ pb ∧ v.ownBlock ≠ some pb ∧ v.ownBlock ≠ some mb := by
  obtain ⟨D, ⟨es, cl, hm, _⟩, _⟩ := h.has
  have hb := h.box
  refine ⟨fun e => ?_, fun e => ?_, fun e => ?_⟩
  · rw [e, hb] at hm; cases hm
  · rcases h.row.2 with ⟨k, _⟩ | ⟨g, c, cur, k, _, k2, _⟩
    · rw [k] at e; cases e
    · rw [k] at e
      cases e
      rw [hb] at k2
      cases k2
  · rcases h.row.2 with ⟨k, _⟩ | ⟨g, c, cur, k, _, k2, _⟩
    · rw [k] at e; cases e
    · rw [k] at e
      cases e
      rw [hm] at k2
      cases k2

/-- What turns other blocks leaves a pile as it was. -/
theorem PileIs.of {w w' : World} {pb mb : Nat} {v : Value} {L : List Hv} (h : PileIs w pb mb v L) {S : List (Option Nat)} (hf : Fr w w' S) (h1 : some pb ∉ S) (h2 : some mb ∉ S) (h3 : ∀ g, v.ownBlock = some g → some g ∉ S) : PileIs w' pb mb v L := by
  refine ⟨(hf.2.2.2.2 pb h.lt h1).trans h.box, ?_, h.has.of (hf.2.2.2.2 mb h.has.lt h2), h.nodup, h.good⟩
  refine ⟨h.row.1, ?_⟩
  rcases h.row.2 with k | ⟨g, c, cur, k, k1, k2, k3, k4, k5⟩
  · exact .inl k
  · have hlt : g < w.heap.size := by
      rcases Nat.lt_or_ge g w.heap.size with k6 | k6
      · exact k6
      · rw [Array.getElem?_eq_none k6] at k2; cases k2
    exact .inr ⟨g, c, cur, k, k1, (hf.2.2.2.2 g hlt (h3 g (by rw [k]; rfl))).trans k2, k3, k4, k5⟩

theorem PileIs.gr {w w' : World} {pb mb : Nat} {v : Value} {L : List Hv} (h : PileIs w pb mb v L) (hg : Gr w w') : PileIs w' pb mb v L :=
  h.of (Fr.of_gr hg []) (by simp) (by simp) (fun g _ => by simp)

/-- An element of a pile. -/
theorem PileIs.at {w : World} {pb mb : Nat} {v : Value} {L : List Hv} (h : PileIs w pb mb v L) {j : Nat} (hj : j < L.length) :
    ∃ g cap, v = .slice (some ⟨g, 0, none⟩) L.length cap ∧ w.cell? ⟨g, j * 3, none⟩ = some (.int .i64 (hd L j).d) ∧ w.cell? ⟨g, j * 3 + 1, none⟩ = some (.int .i64 (hd L j).i) ∧ w.cell? ⟨g, j * 3 + 2, none⟩ = some (.string (hd L j).c) := by
  obtain ⟨p, cap, rfl, _, _, hr⟩ := own_rd h.row
  obtain ⟨g, rfl, _⟩ := hr (by omega)
  exact ⟨g, cap, rfl, own_threeH h.row (hd_get hj)⟩

set_option maxRecDepth 100000 in
theorem newPile_calls (w : World) : Calls Tryd.prog 45 #[] w fun e w' => e = .returned (.pointer (some ⟨w.heap.size + 1, 0, none⟩)) ∧ PileIs w' (w.heap.size + 1) w.heap.size (.slice none 0 0) [] ∧ Gr w w' := by
  have hb : ∀ (W : World) (n : Nat), (Instr.build 99 #[(1, .func (.func 55) #[] #[]), (2, .map (some n))]).run Tryd.prog W = .ok (.agg #[.slice none 0 0, .func (.func 55) #[] #[], .map (some n)]) W := fun W n => run_build W _ _ _ (by kernel_rfl)
  have hmk : ∀ W : World, (Instr.makeMap 97 none).run Tryd.prog W = .ok (.map (some W.heap.size)) (W.alloc (.map #[] 0)) := fun W => by kernel_rfl
  have HP : Hid (PileIs ((w.alloc (.map #[] 0)).alloc (.cells #[.slice none 0 0, .func (.func 55) #[] #[], .map (some w.heap.size)] 99)) (w.heap.size + 1) w.heap.size (.slice none 0 0) []) := Lib.hid (by
    refine ⟨?_, ⟨rfl, .inl ⟨rfl, rfl⟩⟩, (HasIs.made w).of ?_, List.nodup_nil, fun x hx => by cases hx⟩
    · have := World.alloc_heap_new (w.alloc (.map #[] 0)) (.cells #[.slice none 0 0, .func (.func 55) #[] #[], .map (some w.heap.size)] 99)
      rw [World.size_alloc] at this
      exact this
    · exact Below.heap_alloc _ _ _ (by rw [World.size_alloc]; omega))
  have HG : Hid (Gr w ((w.alloc (.map #[] 0)).alloc (.cells #[.slice none 0 0, .func (.func 55) #[] #[], .map (some w.heap.size)] 99))) := Lib.hid (((Gr.refl w).alloc _).alloc _)
  go_enter Tryd.func45, Tryd.ntmps45
  go_wp2
  go_ret
  exact ⟨rfl, HP.out, HG.out⟩
end Go.Proofs.YtmfanldekjkbiaaDoor

/-
  A MAP OF PAIRS as the program keeps it; the laws at the operations on its pairs; New, Insert, Get, Delete, Count, Seq.
-/
import Derived.Test.YtmfanldekjkbiaaDoorPairP
import Derived.Test.YtmfanldekjkbiaaDoorTopC
import Derived.Test.YtmfanldekjkbiaaDoorCheckW
namespace Go.Proofs.YtmfanldekjkbiaaDoor
open Go.RowKit
set_option linter.unusedVariables false

section
variable (w : World) {ops : Array Oper} {rest : List Oper} {o : Oper} {a : Act} {Q : Exit → Act → World → Prop}

theorem wpList_lookup_pairs (hg : o.guard = none) (m x : Operand) (hop : o.op = Op.lookup 64 m x true) (b : Nat) (L : List Pv) (hm : a.eval m = .map (some b)) (h : PairsIs w b L) (i : Int) (hx : a.eval x = .int .i64 i) (hi : (Lit.int .i64 i).wf = true)
    (hK : wpList Tryd.prog ops Q rest (a.put o.dst (.tuple #[.agg #[.string (codeAt L i)], .bool (hasId L i)])) w) : wpList Tryd.prog ops Q (o :: rest) a w := by
  refine wpList_plain hg fun K' hK' => ?_
  unfold Oper.wp
  have hlk := h.look hi
  unfold heldV at hlk
  simp [execOp, hop, hm, hx, hlk, Result.andThen]
  exact hK' _ _ hK

theorem wpList_mapUpdate_pairs (hg : o.guard = none) (m x v : Operand) (hop : o.op = Op.mapUpdate 64 m x v) (b : Nat) (L : List Pv) (hm : a.eval m = .map (some b)) (h : PairsIs w b L) (p : Pv) (hx : a.eval x = .int .i64 p.i) (hv : a.eval v = .agg #[.string p.c]) (hi : (Lit.int .i64 p.i).wf = true) (hn : hasId L p.i = false) (hl : L.length < maxLen)
    (hK : ∀ w', PairsIs w' b (L ++ [p]) → w.grownBy w' (some b) → wpList Tryd.prog ops Q rest (a.put o.dst undef) w') : wpList Tryd.prog ops Q (o :: rest) a w := by
  refine wpList_plain hg fun K' hK' => ?_
  obtain ⟨w', hrun, r1, r2⟩ := h.put p hi hn hl
  unfold heldV at hrun
  unfold Oper.wp
  simp [execOp, hop, hm, hx, hv, hrun, Result.andThen]
  exact hK' _ _ (hK w' r1 r2)

theorem wpList_delete_pairs (hg : o.guard = none) (m x : Operand) (hop : o.op = Op.call { callee := Callee.builtin Builtin.delete, args := #[m, x], argTypes := #[64, 3] }) (b : Nat) (L : List Pv) (hm : a.eval m = .map (some b)) (h : PairsIs w b L) (i : Int) (hx : a.eval x = .int .i64 i) (hi : (Lit.int .i64 i).wf = true) (hn : hasId L i = true)
    (hK : ∀ w', PairsIs w' b (lessId L i) → w.grownBy w' (some b) → wpList Tryd.prog ops Q rest (a.put o.dst (.tuple #[])) w') : wpList Tryd.prog ops Q (o :: rest) a w := by
  refine wpList_plain hg fun K' hK' => ?_
  obtain ⟨w', hrun, r1, r2⟩ := h.drop hi hn o.type
  unfold Oper.wp
  simp [execOp, hop, resolve, invoke, builtin, hm, hx, hrun, Result.andThen]
  exact hK' _ _ (hK w' r1 r2)

theorem wpList_len_pairs (hg : o.guard = none) (m : Operand) (hop : o.op = Op.call { callee := Callee.builtin Builtin.len, args := #[m], argTypes := #[64] }) (b : Nat) (L : List Pv) (hm : a.eval m = .map (some b)) (h : PairsIs w b L)
    (hK : wpList Tryd.prog ops Q rest (a.put o.dst (.int .i64 (L.length : Nat))) w) : wpList Tryd.prog ops Q (o :: rest) a w := by
  refine wpList_plain hg fun K' hK' => ?_
  unfold Oper.wp
  simp [execOp, hop, resolve, invoke, builtin, hm, h.len o.type, Result.andThen]
  exact hK' _ _ hK
end

/-- The pairs of a map of width W go. -/
def FitP (W : Nat) (L : List Pv) : Prop := ∀ p ∈ L, 0 ≤ p.i ∧ p.i ≤ 281474976710656 ∧ p.c.size = W / 8

/-- A map of pairs: its block, its pairs' block. -/
def MapIs (w : World) (mb pb W : Nat) (S : Int) (L : List Pv) : Prop :=
  w.heap[mb]? = some (.cells #[.int .i64 (W : Int), .int .i64 S, .map (some pb)] 66 (0, 0)) ∧ PairsIs w pb L ∧ FitP W L

section
variable {w w' : World} {mb pb W : Nat} {S : Int} {L : List Pv}

theorem MapIs.lt (h : MapIs w mb pb W S L) : mb < w.heap.size ∧ pb < w.heap.size := ⟨(Array.getElem?_eq_some_iff.1 h.1).1, h.2.1.lt⟩

theorem MapIs.ne (h : MapIs w mb pb W S L) : mb ≠ pb := by
  obtain ⟨h1, ⟨D, ⟨es, cl, hb, _⟩, _⟩, _⟩ := h
  intro e
  rw [e, hb] at h1
  cases h1

theorem MapIs.of (h : MapIs w mb pb W S L) (h1 : w'.heap[mb]? = w.heap[mb]?) (h2 : w'.heap[pb]? = w.heap[pb]?) : MapIs w' mb pb W S L := ⟨h1.trans h.1, h.2.1.of h2, h.2.2⟩

theorem MapIs.below (h : MapIs w mb pb W S L) (hb : Below w.heap.size w w') : MapIs w' mb pb W S L := h.of (hb.block mb h.lt.1) (hb.block pb h.lt.2)

theorem MapIs.gr (h : MapIs w mb pb W S L) (hg : Gr w w') : MapIs w' mb pb W S L := h.below hg.below

theorem MapIs.frp {F : Nat → Prop} (h : MapIs w mb pb W S L) (hf : FrP w w' F) (h1 : ¬ F mb) (h2 : ¬ F pb) : MapIs w' mb pb W S L := h.of (hf.2.2.2.2 mb h.lt.1 h1) (hf.2.2.2.2 pb h.lt.2 h2)

theorem MapIs.cells (h : MapIs w mb pb W S L) : w.cell? ⟨mb, 0, none⟩ = some (.int .i64 (W : Int)) ∧ w.cell? ⟨mb, 1, none⟩ = some (.int .i64 S) ∧ w.cell? ⟨mb, 2, none⟩ = some (.map (some pb)) ∧ w.frozen? ⟨mb, 1, none⟩ = false := by
  refine ⟨?_, ?_, ?_, ?_⟩ <;> simp [World.cell?, World.frozen?, h.1]
end

/-- The two blocks of a map. -/
def MapB (mb pb : Nat) (b : Nat) : Prop := b = mb ∨ b = pb

set_option maxHeartbeats 1000000 in
theorem isID_calls (i : Int) (w : World) : Calls Tryd.prog 38 #[.int .i64 i] w fun e w' => e = .returned (.bool (decide (0 ≤ i ∧ i ≤ 281474976710656))) ∧ w' = w := by
  by_cases h1 : 0 ≤ i
  · by_cases h2 : i ≤ 281474976710656
    · have hd : decide (0 ≤ i ∧ i ≤ 281474976710656) = true := by simp [h1, h2]
      rw [hd]
      clear hd
      go_enter Tryd.func38, Tryd.ntmps38
      go_wp2
      go_ret
      exact ⟨rfl, rfl⟩
    · have hd : decide (0 ≤ i ∧ i ≤ 281474976710656) = false := by simp [h2]
      have h3 : decide (i ≤ 281474976710656) = false := by simp [h2]
      rw [hd]
      clear hd
      go_enter Tryd.func38, Tryd.ntmps38
      go_wp2
      go_ret
      exact ⟨rfl, rfl⟩
  · have hd : decide (0 ≤ i ∧ i ≤ 281474976710656) = false := by simp [h1]
    have h3 : decide (0 ≤ i) = false := by simp [h1]
    rw [hd]
    clear hd
    go_enter Tryd.func38, Tryd.ntmps38
    go_wp2
    go_ret
    exact ⟨rfl, rfl⟩

/-- What New leaves. -/
def NewMap (w : World) (W : Nat) (e : Ending) (w' : World) : Prop :=
  ∃ mb pb, e = .returned (.tuple #[.pointer (some ⟨mb, 0, none⟩), .int .i64 0]) ∧ MapIs w' mb pb W 0 [] ∧ Below w.heap.size w w' ∧ w.heap.size ≤ mb ∧ w.heap.size ≤ pb

set_option maxRecDepth 100000 in
theorem newMap_calls (W : Nat) (hW : widthB W = true) (w : World) : Calls Tryd.prog 20 #[.int .i64 (W : Int)] w (NewMap w W) := by
  have C := Check_calls (W : Int) ⟨#[]⟩ (by decide) w
  have hne : (checkR (W : Int) (ByteArray.size ⟨#[]⟩) == 10) = false := by
    unfold checkR
    rw [hW]
    simp only [if_true]
    split <;> decide
  generalize checkR (W : Int) (ByteArray.size ⟨#[]⟩) = c at C hne
  have hmm := @run_makeMap Tryd.prog
  go_enter Tryd.func20, Tryd.ntmps20
  go_wp2_with fail
  refine C.mono ?_
  rintro e w1 ⟨rfl, rfl⟩
  go_wp2
  go_ret2
  refine ⟨w.heap.size + 1, w.heap.size, by simp, ⟨?_, ?_, fun p hp => absurd hp (List.not_mem_nil)⟩, ((Below.refl _ _).alloc (Nat.le_refl _) _).alloc (by simp) _, by omega, by omega⟩
  · have := heap_alloc_new (w.alloc (.map #[] 0)) (.cells #[.int .i64 (W : Int), .int .i64 0, .map (some w.heap.size)] 66)
    simpa using this
  · exact (PairsIs.made w).of (Below.heap_alloc _ _ _ (by simp))
end Go.Proofs.YtmfanldekjkbiaaDoor

/-
  WALK: Asked, by the program.
-/
import Derived.Test.YtabhjkaheghbhaaAskd
import Derived.Laws.ResultCell
import Derived.Laws.EntriesVeiled
namespace Go.Proofs.Ytabhjkaheghbhaa
open Go.RowKit
set_option linter.unusedVariables false

/-- A request's cells. -/
def rqC (op id : Int) (c : ByteArray) (k rr : Int) : Array Value := #[.int .i64 op, .int .i64 id, .string c, .int .i64 k, .int .i64 rr]
theorem prep (w : World) (b : ByteArray) : ∃ W, (w.alloc (.cells #[.int .i64 0, .int .i64 0, .string ⟨#[]⟩, .int .i64 0, .int .i64 0] 24)).alloc (.cells #[.string b, .int .i64 0, .int .i64 0] 58) = W ∧ W.heap.size = w.heap.size + 1 + 1 ∧ Rd W 58 (w.heap.size + 1) b (Except.ok 0) ∧ Rq W w.heap.size 0 0 ⟨#[]⟩ 0 0 ∧ Below w.heap.size w W := by
  refine ⟨_, rfl, by simp, ⟨Nat.zero_le _, ?_⟩, ?_, ((Below.refl _ w).alloc (Nat.le_refl _) _).alloc (by simp) _⟩
  · have e : ∀ o, (w.alloc o).heap.size = w.heap.size + 1 := fun o => by simp
    have := heap_alloc_last (w.alloc (.cells #[.int .i64 0, .int .i64 0, .string ⟨#[]⟩, .int .i64 0, .int .i64 0] 24)) (.cells #[.string b, .int .i64 0, .int .i64 0] 58)
    rw [e] at this
    exact this
  · exact (Below.heap_alloc _ _ _ (by simp)).trans (heap_alloc_last w _)
theorem Rs.alloc {w : World} {T : TypeId} {r : Nat} {b : ByteArray} {a e : Int} (h : Rs w T r b a e) (o : Obj) : Rs (w.alloc o) T r b a e := (Below.heap_alloc _ _ _ h.lt).trans h
theorem Rd.alloc {w : World} {T : TypeId} {r : Nat} {b : ByteArray} {s : St} (h : Rd w T r b s) (o : Obj) : Rd (w.alloc o) T r b s := h.of (Below.heap_alloc _ _ _ h.lt)
theorem Rq.alloc {w : World} {q : Nat} {op id : Int} {c : ByteArray} {k rr : Int} (h : Rq w q op id c k rr) (o : Obj) : Rq (w.alloc o) q op id c k rr := h.of (Below.heap_alloc _ _ _ h.lt)
theorem Rq.new (w : World) (op id : Int) (c : ByteArray) (k rr : Int) : Rq (w.alloc (.cells #[.int .i64 op, .int .i64 id, .string c, .int .i64 k, .int .i64 rr] 24)) w.heap.size op id c k rr := heap_alloc_last w _
theorem below_five {B : Nat} {a w : World} (h : Below B a w) {g : Nat} (hg : B ≤ g) (u0 u1 u2 u3 u4 : Value) : Below B a (((((w.setCell ⟨g, 0, none⟩ u0).setCell ⟨g, 1, none⟩ u1).setCell ⟨g, 2, none⟩ u2).setCell ⟨g, 3, none⟩ u3).setCell ⟨g, 4, none⟩ u4) :=
  ((((h.setCell (p := ⟨g, 0, none⟩) hg u0).setCell (p := ⟨g, 1, none⟩) hg u1).setCell (p := ⟨g, 2, none⟩) hg u2).setCell (p := ⟨g, 3, none⟩) hg u3).setCell (p := ⟨g, 4, none⟩) hg u4
set_option maxRecDepth 100000 in
set_option maxHeartbeats 1000000 in
theorem asked_err (b : ByteArray) (hb : b.size ≤ 4611686018427387904) (e : Int) (he : hd2 b 81 = Except.error e) (w : World) :
    Calls Try.prog 11 #[.string b] w fun x w' => x = .returned (.tuple #[.agg (rqC 0 0 ⟨#[]⟩ 0 0), .int .i64 e]) ∧ Below w.heap.size w w' := by
  have hbu1 : ∀ W : World, (Instr.build 58 #[(0, .string b)]).run Try.prog W = .ok (.agg #[.string b, .int .i64 0, .int .i64 0]) W := fun W => run_build W _ _ _ (by kernel_rfl)
  have hbu2 : ∀ (W : World) (z : Int), (Instr.build 24 #[(0, .int .i64 z)]).run Try.prog W = .ok (.agg #[.int .i64 z, .int .i64 0, .string ⟨#[]⟩, .int .i64 0, .int .i64 0]) W := fun W z => run_build W _ _ _ (by kernel_rfl)
  have hbu3 : ∀ W : World, (Instr.build 24 #[]).run Try.prog W = .ok (.agg #[.int .i64 0, .int .i64 0, .string ⟨#[]⟩, .int .i64 0, .int .i64 0]) W := fun W => run_build W _ _ _ (by kernel_rfl)
  have C := Lib.hid (fun r W h => head_calls 81 r b hb W h)
  have D := Lib.hid (fun r W h => end_calls r b hb (Except.error e) W h)
  rw [he] at C
  generalize hdv b 81 = v at C
  unfold rqC
  go_enter Try.func11, Try.ntmps11
  go_wp2_with fail
  obtain ⟨W, hW, hz, hRd, hRq, hBl⟩ := prep w b
  rw [hW]
  clear hW
  refine (C.out _ _ hRd).mono ?_
  rintro x w1 ⟨rfl, ⟨hen, a, hs⟩, hg1⟩
  have hc2 : ∀ o, (w1.alloc o).cell? ⟨w.heap.size + 1, 2, none⟩ = some (.int .i64 e) := fun o => (hs.alloc o).cells.2.2.1
  have hen2 : (e == 0) = false := by rw [beq_eq_false_iff_ne]; exact hen
  have HS := Lib.hid (show Rd w1 58 (w.heap.size + 1) b (Except.error e) from ⟨hen, a, hs⟩)
  have HRq := Lib.hid (hRq.of (grown_heap hg1 (by omega) (by omega)))
  have HBl := Lib.hid (grown_below hBl hg1 (by omega) (fun k h => by cases h; omega))
  have hsz : W.heap.size ≤ w1.heap.size := hg1.size
  clear hs hRq hBl hg1 hRd hen
  go_wp2_with fail
  refine (D.out _ _ (HS.out.alloc _)).mono ?_
  rintro x w2 ⟨rfl, hg2⟩
  have HRq2 := Lib.hid ((HRq.out.alloc _).of (grown_heap hg2 (by simp; omega) (by omega)))
  have HBl2 := Lib.hid (grown_below (HBl.out.alloc (by omega) _) hg2 (by simp; omega) (fun k h => by cases h; omega))
  obtain ⟨q0, q1, q2, q3, q4, qf⟩ := HRq2.out.cells
  have f0 := qf 0
  have f1 := qf 1
  have f2 := qf 2
  have f3 := qf 3
  have f4 := qf 4
  have hpe : pEnd b (Except.error e) = e := rfl
  clear qf hg2 hc2
  rw [hpe]
  go_wp2
  have hbl := below_five HBl2.out (Nat.le_refl _) (.int .i64 0) (.int .i64 0) (.string ⟨#[]⟩) (.int .i64 0) (.int .i64 0)
  refine bodyPost_ret (v := .tuple #[.agg #[.int .i64 0, .int .i64 0, .string ⟨#[]⟩, .int .i64 0, .int .i64 0], .int .i64 e]) ?_ rfl ⟨rfl, hbl⟩
  rw [results_cell_tmp rfl]
  go_simp
set_option maxRecDepth 100000 in
set_option maxHeartbeats 1000000 in
theorem asked_op_1 (b : ByteArray) (hb : b.size ≤ 4611686018427387904) (a : Nat) (op : Int) (ha : hd2 b 81 = Except.ok a) (hop : hdv b 81 = op) (A : St → St × Int × ByteArray × Int × Int) (hf : Asks 56 b A) (x0 x2 x3 x4 x5 : Value)
    (hidx : ∀ W : World, (Instr.index 68 (.agg opsT) (.int .i64 op)).run Try.prog W = .ok (.agg #[x0, .func (.func 56) #[] #[], x2, x3, x4, x5]) W) (w : World) :
    Calls Try.prog 11 #[.string b] w fun x w' => x = .returned (.tuple #[.agg (if pEnd b (A (Except.ok a)).1 = 0 then rqC op (A (Except.ok a)).2.1 (A (Except.ok a)).2.2.1 (A (Except.ok a)).2.2.2.1 (A (Except.ok a)).2.2.2.2 else rqC 0 0 ⟨#[]⟩ 0 0), .int .i64 (pEnd b (A (Except.ok a)).1)]) ∧ Below w.heap.size w w' := by
  have hbu1 : ∀ W : World, (Instr.build 58 #[(0, .string b)]).run Try.prog W = .ok (.agg #[.string b, .int .i64 0, .int .i64 0]) W := fun W => run_build W _ _ _ (by kernel_rfl)
  have hbu2 : ∀ (W : World) (z : Int), (Instr.build 24 #[(0, .int .i64 z)]).run Try.prog W = .ok (.agg #[.int .i64 z, .int .i64 0, .string ⟨#[]⟩, .int .i64 0, .int .i64 0]) W := fun W z => run_build W _ _ _ (by kernel_rfl)
  have hbu3 : ∀ W : World, (Instr.build 24 #[]).run Try.prog W = .ok (.agg #[.int .i64 0, .int .i64 0, .string ⟨#[]⟩, .int .i64 0, .int .i64 0]) W := fun W => run_build W _ _ _ (by kernel_rfl)
  have hfd : ∀ W : World, (Instr.field 67 (.agg #[x0, .func (.func 56) #[] #[], x2, x3, x4, x5]) 1).run Try.prog W = .ok (.func (.func 56) #[] #[]) W := fun _ => by kernel_rfl
  have C := Lib.hid (fun r W h => head_calls 81 r b hb W h)
  have E := Lib.hid (fun r W h => end_calls r b hb (A (Except.ok a)).1 W h)
  have F := Lib.hid (fun B r q W h1 h2 h3 h4 h5 => hf B r q op (Except.ok a) W h1 h2 h3 h4 h5)
  have O := Lib.hid (fun W => operations_calls W)
  rw [ha, hop] at C
  generalize A (Except.ok a) = res at E F ⊢
  obtain ⟨s1, i1, c1, k1, r1⟩ := res
  simp only at E F ⊢
  unfold rqC
  obtain ⟨en, hen⟩ : ∃ en, pEnd b s1 = en := ⟨_, rfl⟩
  rw [hen] at E ⊢
  obtain ⟨ag, hag⟩ : ∃ ag, (if en = 0 then (#[.int .i64 op, .int .i64 i1, .string c1, .int .i64 k1, .int .i64 r1] : Array Value) else #[.int .i64 0, .int .i64 0, .string ⟨#[]⟩, .int .i64 0, .int .i64 0]) = ag := ⟨_, rfl⟩
  rw [hag]
  have HAG := Lib.hid hag
  clear hf ha hop hen hag
  go_enter Try.func11, Try.ntmps11
  go_wp2_with fail
  obtain ⟨W, hW, hz, hRd, hRq, hBl⟩ := prep w b
  rw [hW]
  clear hW
  refine (C.out _ _ hRd).mono ?_
  rintro x w1 ⟨rfl, hs, hg1⟩
  have hc2 : ∀ o, (w1.alloc o).cell? ⟨w.heap.size + 1, 2, none⟩ = some (.int .i64 0) := fun o => (hs.2.alloc o).cells.2.2.1
  have HS := Lib.hid hs
  have HRq := Lib.hid (hRq.of (grown_heap hg1 (by omega) (by omega)))
  have HBl := Lib.hid (grown_below hBl hg1 (by omega) (fun k h => by cases h; omega))
  have hsz : W.heap.size ≤ w1.heap.size := hg1.size
  clear hs hRq hBl hg1 hRd
  go_wp2_with fail
  have HQ := Lib.hid (Rq.new w1 op 0 ⟨#[]⟩ 0 0)
  have HS2 := Lib.hid (HS.out.alloc (.cells #[.int .i64 op, .int .i64 0, .string ⟨#[]⟩, .int .i64 0, .int .i64 0] 24))
  have HRq2 := Lib.hid (HRq.out.alloc (.cells #[.int .i64 op, .int .i64 0, .string ⟨#[]⟩, .int .i64 0, .int .i64 0] 24))
  have HBl2 := Lib.hid (HBl.out.alloc (by omega) (.cells #[.int .i64 op, .int .i64 0, .string ⟨#[]⟩, .int .i64 0, .int .i64 0] 24))
  obtain ⟨Q, hQ⟩ : ∃ Q, w1.heap.size = Q := ⟨_, rfl⟩
  have hsz2 : w1.heap.size < (w1.alloc (.cells #[.int .i64 op, .int .i64 0, .string ⟨#[]⟩, .int .i64 0, .int .i64 0] 24)).heap.size := by simp
  generalize w1.alloc (.cells #[.int .i64 op, .int .i64 0, .string ⟨#[]⟩, .int .i64 0, .int .i64 0] 24) = w2 at HQ HS2 HRq2 HBl2 hsz2 ⊢
  rw [hQ] at HQ hsz hsz2 ⊢
  obtain ⟨q0, q1, q2, q3, q4, qf⟩ := HQ.out.cells
  clear hc2 qf q1 q2 q3 q4
  have hr2 := HS2.out.lt
  have hp2 := HRq2.out.lt
  go_region_held3 (fun W => W.cell? ⟨Q, 0, none⟩ = some (.int .i64 op))
    (first | exact e4 | exact e3 | exact q0)
    (first | (go_at_call 24; refine (O.out _).mono ?_; rintro x w3 ⟨rfl, k3⟩; have R3 := HS2.out.of (k3.block _ hr2); have P3 := HRq2.out.of (k3.block _ hp2); have Q3 := HQ.out.of (k3.block _ hsz2); have B3 := (HBl2.out.trans ((show Below w2.heap.size w2 w3 from ⟨k3.os, k3.tape, k3.output, k3.size, k3.block⟩).mono (Nat.le_of_lt hp2))); have e3 := Q3.cells.1) | (refine (F.out (w.heap.size + 1) _ _ _ (Nat.le_refl _) (by omega) (by omega) R3 Q3).mono ?_; rintro x w4 ⟨rfl, R4, Q4, k4⟩; have e4 := Q4.cells.1))
  have HQ4 := Lib.hid Q4
  have HP4 := Lib.hid (P3.of (k4.block _ (Nat.lt_succ_self _)))
  have HR4 := Lib.hid R4
  have HB4 := Lib.hid (B3.trans (k4.mono (Nat.le_succ _)))
  have hs4 : Q < w4.heap.size := Q4.lt
  clear Q4 P3 k4 R4 B3 R3 Q3 e3 e4 k3 q0
  go_wp2_with fail
  refine (E.out _ _ HR4.out).mono ?_
  rintro x w5 ⟨rfl, hg5⟩
  have HP5 := Lib.hid (HP4.out.of (grown_heap hg5 (by omega) (by omega)))
  have HQ5 := Lib.hid (HQ4.out.of (grown_heap hg5 hs4 (by omega)))
  have HB5 := Lib.hid (grown_below HB4.out hg5 (by omega) (fun k h => by cases h; omega))
  obtain ⟨p0, p1, p2, p3, p4, pf⟩ := HP5.out.cells
  obtain ⟨q0, q1, q2, q3, q4, qf⟩ := HQ5.out.cells
  have f0 := pf 0
  have f1 := pf 1
  have f2 := pf 2
  have f3 := pf 3
  have f4 := pf 4
  have hQp : Q ≠ w.heap.size := by omega
  clear pf qf hg5
  by_cases h0 : en = 0
  · subst h0
    have hag := HAG.out
    rw [if_pos rfl] at hag
    subst hag
    go_wp2
    have hbl := below_five HB5.out (Nat.le_refl _) (.int .i64 op) (.int .i64 i1) (.string c1) (.int .i64 k1) (.int .i64 r1)
    refine bodyPost_ret (v := .tuple #[.agg #[.int .i64 op, .int .i64 i1, .string c1, .int .i64 k1, .int .i64 r1], .int .i64 0]) ?_ rfl ⟨rfl, hbl⟩
    rw [results_cell_tmp rfl]
    go_simp
  · have hag := HAG.out
    rw [if_neg h0] at hag
    subst hag
    have h1 : (en == 0) = false := by rw [beq_eq_false_iff_ne]; exact h0
    clear h0
    go_wp2
    have hbl := below_five HB5.out (Nat.le_refl _) (.int .i64 0) (.int .i64 0) (.string ⟨#[]⟩) (.int .i64 0) (.int .i64 0)
    refine bodyPost_ret (v := .tuple #[.agg #[.int .i64 0, .int .i64 0, .string ⟨#[]⟩, .int .i64 0, .int .i64 0], .int .i64 en]) ?_ rfl ⟨rfl, hbl⟩
    rw [results_cell_tmp rfl]
    go_simp
set_option maxRecDepth 100000 in
set_option maxHeartbeats 1000000 in
theorem asked_op_2 (b : ByteArray) (hb : b.size ≤ 4611686018427387904) (a : Nat) (op : Int) (ha : hd2 b 81 = Except.ok a) (hop : hdv b 81 = op) (A : St → St × Int × ByteArray × Int × Int) (hf : Asks 63 b A) (x0 x2 x3 x4 x5 : Value)
    (hidx : ∀ W : World, (Instr.index 68 (.agg opsT) (.int .i64 op)).run Try.prog W = .ok (.agg #[x0, .func (.func 63) #[] #[], x2, x3, x4, x5]) W) (w : World) :
    Calls Try.prog 11 #[.string b] w fun x w' => x = .returned (.tuple #[.agg (if pEnd b (A (Except.ok a)).1 = 0 then rqC op (A (Except.ok a)).2.1 (A (Except.ok a)).2.2.1 (A (Except.ok a)).2.2.2.1 (A (Except.ok a)).2.2.2.2 else rqC 0 0 ⟨#[]⟩ 0 0), .int .i64 (pEnd b (A (Except.ok a)).1)]) ∧ Below w.heap.size w w' := by
  have hbu1 : ∀ W : World, (Instr.build 58 #[(0, .string b)]).run Try.prog W = .ok (.agg #[.string b, .int .i64 0, .int .i64 0]) W := fun W => run_build W _ _ _ (by kernel_rfl)
  have hbu2 : ∀ (W : World) (z : Int), (Instr.build 24 #[(0, .int .i64 z)]).run Try.prog W = .ok (.agg #[.int .i64 z, .int .i64 0, .string ⟨#[]⟩, .int .i64 0, .int .i64 0]) W := fun W z => run_build W _ _ _ (by kernel_rfl)
  have hbu3 : ∀ W : World, (Instr.build 24 #[]).run Try.prog W = .ok (.agg #[.int .i64 0, .int .i64 0, .string ⟨#[]⟩, .int .i64 0, .int .i64 0]) W := fun W => run_build W _ _ _ (by kernel_rfl)
  have hfd : ∀ W : World, (Instr.field 67 (.agg #[x0, .func (.func 63) #[] #[], x2, x3, x4, x5]) 1).run Try.prog W = .ok (.func (.func 63) #[] #[]) W := fun _ => by kernel_rfl
  have C := Lib.hid (fun r W h => head_calls 81 r b hb W h)
  have E := Lib.hid (fun r W h => end_calls r b hb (A (Except.ok a)).1 W h)
  have F := Lib.hid (fun B r q W h1 h2 h3 h4 h5 => hf B r q op (Except.ok a) W h1 h2 h3 h4 h5)
  have O := Lib.hid (fun W => operations_calls W)
  rw [ha, hop] at C
  generalize A (Except.ok a) = res at E F ⊢
  obtain ⟨s1, i1, c1, k1, r1⟩ := res
  simp only at E F ⊢
  unfold rqC
  obtain ⟨en, hen⟩ : ∃ en, pEnd b s1 = en := ⟨_, rfl⟩
  rw [hen] at E ⊢
  obtain ⟨ag, hag⟩ : ∃ ag, (if en = 0 then (#[.int .i64 op, .int .i64 i1, .string c1, .int .i64 k1, .int .i64 r1] : Array Value) else #[.int .i64 0, .int .i64 0, .string ⟨#[]⟩, .int .i64 0, .int .i64 0]) = ag := ⟨_, rfl⟩
  rw [hag]
  have HAG := Lib.hid hag
  clear hf ha hop hen hag
  go_enter Try.func11, Try.ntmps11
  go_wp2_with fail
  obtain ⟨W, hW, hz, hRd, hRq, hBl⟩ := prep w b
  rw [hW]
  clear hW
  refine (C.out _ _ hRd).mono ?_
  rintro x w1 ⟨rfl, hs, hg1⟩
  have hc2 : ∀ o, (w1.alloc o).cell? ⟨w.heap.size + 1, 2, none⟩ = some (.int .i64 0) := fun o => (hs.2.alloc o).cells.2.2.1
  have HS := Lib.hid hs
  have HRq := Lib.hid (hRq.of (grown_heap hg1 (by omega) (by omega)))
  have HBl := Lib.hid (grown_below hBl hg1 (by omega) (fun k h => by cases h; omega))
  have hsz : W.heap.size ≤ w1.heap.size := hg1.size
  clear hs hRq hBl hg1 hRd
  go_wp2_with fail
  have HQ := Lib.hid (Rq.new w1 op 0 ⟨#[]⟩ 0 0)
  have HS2 := Lib.hid (HS.out.alloc (.cells #[.int .i64 op, .int .i64 0, .string ⟨#[]⟩, .int .i64 0, .int .i64 0] 24))
  have HRq2 := Lib.hid (HRq.out.alloc (.cells #[.int .i64 op, .int .i64 0, .string ⟨#[]⟩, .int .i64 0, .int .i64 0] 24))
  have HBl2 := Lib.hid (HBl.out.alloc (by omega) (.cells #[.int .i64 op, .int .i64 0, .string ⟨#[]⟩, .int .i64 0, .int .i64 0] 24))
  obtain ⟨Q, hQ⟩ : ∃ Q, w1.heap.size = Q := ⟨_, rfl⟩
  have hsz2 : w1.heap.size < (w1.alloc (.cells #[.int .i64 op, .int .i64 0, .string ⟨#[]⟩, .int .i64 0, .int .i64 0] 24)).heap.size := by simp
  generalize w1.alloc (.cells #[.int .i64 op, .int .i64 0, .string ⟨#[]⟩, .int .i64 0, .int .i64 0] 24) = w2 at HQ HS2 HRq2 HBl2 hsz2 ⊢
  rw [hQ] at HQ hsz hsz2 ⊢
  obtain ⟨q0, q1, q2, q3, q4, qf⟩ := HQ.out.cells
  clear hc2 qf q1 q2 q3 q4
  have hr2 := HS2.out.lt
  have hp2 := HRq2.out.lt
  go_region_held3 (fun W => W.cell? ⟨Q, 0, none⟩ = some (.int .i64 op))
    (first | exact e4 | exact e3 | exact q0)
    (first | (go_at_call 24; refine (O.out _).mono ?_; rintro x w3 ⟨rfl, k3⟩; have R3 := HS2.out.of (k3.block _ hr2); have P3 := HRq2.out.of (k3.block _ hp2); have Q3 := HQ.out.of (k3.block _ hsz2); have B3 := (HBl2.out.trans ((show Below w2.heap.size w2 w3 from ⟨k3.os, k3.tape, k3.output, k3.size, k3.block⟩).mono (Nat.le_of_lt hp2))); have e3 := Q3.cells.1) | (refine (F.out (w.heap.size + 1) _ _ _ (Nat.le_refl _) (by omega) (by omega) R3 Q3).mono ?_; rintro x w4 ⟨rfl, R4, Q4, k4⟩; have e4 := Q4.cells.1))
  have HQ4 := Lib.hid Q4
  have HP4 := Lib.hid (P3.of (k4.block _ (Nat.lt_succ_self _)))
  have HR4 := Lib.hid R4
  have HB4 := Lib.hid (B3.trans (k4.mono (Nat.le_succ _)))
  have hs4 : Q < w4.heap.size := Q4.lt
  clear Q4 P3 k4 R4 B3 R3 Q3 e3 e4 k3 q0
  go_wp2_with fail
  refine (E.out _ _ HR4.out).mono ?_
  rintro x w5 ⟨rfl, hg5⟩
  have HP5 := Lib.hid (HP4.out.of (grown_heap hg5 (by omega) (by omega)))
  have HQ5 := Lib.hid (HQ4.out.of (grown_heap hg5 hs4 (by omega)))
  have HB5 := Lib.hid (grown_below HB4.out hg5 (by omega) (fun k h => by cases h; omega))
  obtain ⟨p0, p1, p2, p3, p4, pf⟩ := HP5.out.cells
  obtain ⟨q0, q1, q2, q3, q4, qf⟩ := HQ5.out.cells
  have f0 := pf 0
  have f1 := pf 1
  have f2 := pf 2
  have f3 := pf 3
  have f4 := pf 4
  have hQp : Q ≠ w.heap.size := by omega
  clear pf qf hg5
  by_cases h0 : en = 0
  · subst h0
    have hag := HAG.out
    rw [if_pos rfl] at hag
    subst hag
    go_wp2
    have hbl := below_five HB5.out (Nat.le_refl _) (.int .i64 op) (.int .i64 i1) (.string c1) (.int .i64 k1) (.int .i64 r1)
    refine bodyPost_ret (v := .tuple #[.agg #[.int .i64 op, .int .i64 i1, .string c1, .int .i64 k1, .int .i64 r1], .int .i64 0]) ?_ rfl ⟨rfl, hbl⟩
    rw [results_cell_tmp rfl]
    go_simp
  · have hag := HAG.out
    rw [if_neg h0] at hag
    subst hag
    have h1 : (en == 0) = false := by rw [beq_eq_false_iff_ne]; exact h0
    clear h0
    go_wp2
    have hbl := below_five HB5.out (Nat.le_refl _) (.int .i64 0) (.int .i64 0) (.string ⟨#[]⟩) (.int .i64 0) (.int .i64 0)
    refine bodyPost_ret (v := .tuple #[.agg #[.int .i64 0, .int .i64 0, .string ⟨#[]⟩, .int .i64 0, .int .i64 0], .int .i64 en]) ?_ rfl ⟨rfl, hbl⟩
    rw [results_cell_tmp rfl]
    go_simp
set_option maxRecDepth 100000 in
set_option maxHeartbeats 1000000 in
theorem asked_op_4 (b : ByteArray) (hb : b.size ≤ 4611686018427387904) (a : Nat) (op : Int) (ha : hd2 b 81 = Except.ok a) (hop : hdv b 81 = op) (A : St → St × Int × ByteArray × Int × Int) (hf : Asks 72 b A) (x0 x2 x3 x4 x5 : Value)
    (hidx : ∀ W : World, (Instr.index 68 (.agg opsT) (.int .i64 op)).run Try.prog W = .ok (.agg #[x0, .func (.func 72) #[] #[], x2, x3, x4, x5]) W) (w : World) :
    Calls Try.prog 11 #[.string b] w fun x w' => x = .returned (.tuple #[.agg (if pEnd b (A (Except.ok a)).1 = 0 then rqC op (A (Except.ok a)).2.1 (A (Except.ok a)).2.2.1 (A (Except.ok a)).2.2.2.1 (A (Except.ok a)).2.2.2.2 else rqC 0 0 ⟨#[]⟩ 0 0), .int .i64 (pEnd b (A (Except.ok a)).1)]) ∧ Below w.heap.size w w' := by
  have hbu1 : ∀ W : World, (Instr.build 58 #[(0, .string b)]).run Try.prog W = .ok (.agg #[.string b, .int .i64 0, .int .i64 0]) W := fun W => run_build W _ _ _ (by kernel_rfl)
  have hbu2 : ∀ (W : World) (z : Int), (Instr.build 24 #[(0, .int .i64 z)]).run Try.prog W = .ok (.agg #[.int .i64 z, .int .i64 0, .string ⟨#[]⟩, .int .i64 0, .int .i64 0]) W := fun W z => run_build W _ _ _ (by kernel_rfl)
  have hbu3 : ∀ W : World, (Instr.build 24 #[]).run Try.prog W = .ok (.agg #[.int .i64 0, .int .i64 0, .string ⟨#[]⟩, .int .i64 0, .int .i64 0]) W := fun W => run_build W _ _ _ (by kernel_rfl)
  have hfd : ∀ W : World, (Instr.field 67 (.agg #[x0, .func (.func 72) #[] #[], x2, x3, x4, x5]) 1).run Try.prog W = .ok (.func (.func 72) #[] #[]) W := fun _ => by kernel_rfl
  have C := Lib.hid (fun r W h => head_calls 81 r b hb W h)
  have E := Lib.hid (fun r W h => end_calls r b hb (A (Except.ok a)).1 W h)
  have F := Lib.hid (fun B r q W h1 h2 h3 h4 h5 => hf B r q op (Except.ok a) W h1 h2 h3 h4 h5)
  have O := Lib.hid (fun W => operations_calls W)
  rw [ha, hop] at C
  generalize A (Except.ok a) = res at E F ⊢
  obtain ⟨s1, i1, c1, k1, r1⟩ := res
  simp only at E F ⊢
  unfold rqC
  obtain ⟨en, hen⟩ : ∃ en, pEnd b s1 = en := ⟨_, rfl⟩
  rw [hen] at E ⊢
  obtain ⟨ag, hag⟩ : ∃ ag, (if en = 0 then (#[.int .i64 op, .int .i64 i1, .string c1, .int .i64 k1, .int .i64 r1] : Array Value) else #[.int .i64 0, .int .i64 0, .string ⟨#[]⟩, .int .i64 0, .int .i64 0]) = ag := ⟨_, rfl⟩
  rw [hag]
  have HAG := Lib.hid hag
  clear hf ha hop hen hag
  go_enter Try.func11, Try.ntmps11
  go_wp2_with fail
  obtain ⟨W, hW, hz, hRd, hRq, hBl⟩ := prep w b
  rw [hW]
  clear hW
  refine (C.out _ _ hRd).mono ?_
  rintro x w1 ⟨rfl, hs, hg1⟩
  have hc2 : ∀ o, (w1.alloc o).cell? ⟨w.heap.size + 1, 2, none⟩ = some (.int .i64 0) := fun o => (hs.2.alloc o).cells.2.2.1
  have HS := Lib.hid hs
  have HRq := Lib.hid (hRq.of (grown_heap hg1 (by omega) (by omega)))
  have HBl := Lib.hid (grown_below hBl hg1 (by omega) (fun k h => by cases h; omega))
  have hsz : W.heap.size ≤ w1.heap.size := hg1.size
  clear hs hRq hBl hg1 hRd
  go_wp2_with fail
  have HQ := Lib.hid (Rq.new w1 op 0 ⟨#[]⟩ 0 0)
  have HS2 := Lib.hid (HS.out.alloc (.cells #[.int .i64 op, .int .i64 0, .string ⟨#[]⟩, .int .i64 0, .int .i64 0] 24))
  have HRq2 := Lib.hid (HRq.out.alloc (.cells #[.int .i64 op, .int .i64 0, .string ⟨#[]⟩, .int .i64 0, .int .i64 0] 24))
  have HBl2 := Lib.hid (HBl.out.alloc (by omega) (.cells #[.int .i64 op, .int .i64 0, .string ⟨#[]⟩, .int .i64 0, .int .i64 0] 24))
  obtain ⟨Q, hQ⟩ : ∃ Q, w1.heap.size = Q := ⟨_, rfl⟩
  have hsz2 : w1.heap.size < (w1.alloc (.cells #[.int .i64 op, .int .i64 0, .string ⟨#[]⟩, .int .i64 0, .int .i64 0] 24)).heap.size := by simp
  generalize w1.alloc (.cells #[.int .i64 op, .int .i64 0, .string ⟨#[]⟩, .int .i64 0, .int .i64 0] 24) = w2 at HQ HS2 HRq2 HBl2 hsz2 ⊢
  rw [hQ] at HQ hsz hsz2 ⊢
  obtain ⟨q0, q1, q2, q3, q4, qf⟩ := HQ.out.cells
  clear hc2 qf q1 q2 q3 q4
  have hr2 := HS2.out.lt
  have hp2 := HRq2.out.lt
  go_region_held3 (fun W => W.cell? ⟨Q, 0, none⟩ = some (.int .i64 op))
    (first | exact e4 | exact e3 | exact q0)
    (first | (go_at_call 24; refine (O.out _).mono ?_; rintro x w3 ⟨rfl, k3⟩; have R3 := HS2.out.of (k3.block _ hr2); have P3 := HRq2.out.of (k3.block _ hp2); have Q3 := HQ.out.of (k3.block _ hsz2); have B3 := (HBl2.out.trans ((show Below w2.heap.size w2 w3 from ⟨k3.os, k3.tape, k3.output, k3.size, k3.block⟩).mono (Nat.le_of_lt hp2))); have e3 := Q3.cells.1) | (refine (F.out (w.heap.size + 1) _ _ _ (Nat.le_refl _) (by omega) (by omega) R3 Q3).mono ?_; rintro x w4 ⟨rfl, R4, Q4, k4⟩; have e4 := Q4.cells.1))
  have HQ4 := Lib.hid Q4
  have HP4 := Lib.hid (P3.of (k4.block _ (Nat.lt_succ_self _)))
  have HR4 := Lib.hid R4
  have HB4 := Lib.hid (B3.trans (k4.mono (Nat.le_succ _)))
  have hs4 : Q < w4.heap.size := Q4.lt
  clear Q4 P3 k4 R4 B3 R3 Q3 e3 e4 k3 q0
  go_wp2_with fail
  refine (E.out _ _ HR4.out).mono ?_
  rintro x w5 ⟨rfl, hg5⟩
  have HP5 := Lib.hid (HP4.out.of (grown_heap hg5 (by omega) (by omega)))
  have HQ5 := Lib.hid (HQ4.out.of (grown_heap hg5 hs4 (by omega)))
  have HB5 := Lib.hid (grown_below HB4.out hg5 (by omega) (fun k h => by cases h; omega))
  obtain ⟨p0, p1, p2, p3, p4, pf⟩ := HP5.out.cells
  obtain ⟨q0, q1, q2, q3, q4, qf⟩ := HQ5.out.cells
  have f0 := pf 0
  have f1 := pf 1
  have f2 := pf 2
  have f3 := pf 3
  have f4 := pf 4
  have hQp : Q ≠ w.heap.size := by omega
  clear pf qf hg5
  by_cases h0 : en = 0
  · subst h0
    have hag := HAG.out
    rw [if_pos rfl] at hag
    subst hag
    go_wp2
    have hbl := below_five HB5.out (Nat.le_refl _) (.int .i64 op) (.int .i64 i1) (.string c1) (.int .i64 k1) (.int .i64 r1)
    refine bodyPost_ret (v := .tuple #[.agg #[.int .i64 op, .int .i64 i1, .string c1, .int .i64 k1, .int .i64 r1], .int .i64 0]) ?_ rfl ⟨rfl, hbl⟩
    rw [results_cell_tmp rfl]
    go_simp
  · have hag := HAG.out
    rw [if_neg h0] at hag
    subst hag
    have h1 : (en == 0) = false := by rw [beq_eq_false_iff_ne]; exact h0
    clear h0
    go_wp2
    have hbl := below_five HB5.out (Nat.le_refl _) (.int .i64 0) (.int .i64 0) (.string ⟨#[]⟩) (.int .i64 0) (.int .i64 0)
    refine bodyPost_ret (v := .tuple #[.agg #[.int .i64 0, .int .i64 0, .string ⟨#[]⟩, .int .i64 0, .int .i64 0], .int .i64 en]) ?_ rfl ⟨rfl, hbl⟩
    rw [results_cell_tmp rfl]
    go_simp
set_option maxRecDepth 100000 in
set_option maxHeartbeats 1000000 in
theorem asked_op_5 (b : ByteArray) (hb : b.size ≤ 4611686018427387904) (a : Nat) (op : Int) (ha : hd2 b 81 = Except.ok a) (hop : hdv b 81 = op) (A : St → St × Int × ByteArray × Int × Int) (hf : Asks 75 b A) (x0 x2 x3 x4 x5 : Value)
    (hidx : ∀ W : World, (Instr.index 68 (.agg opsT) (.int .i64 op)).run Try.prog W = .ok (.agg #[x0, .func (.func 75) #[] #[], x2, x3, x4, x5]) W) (w : World) :
    Calls Try.prog 11 #[.string b] w fun x w' => x = .returned (.tuple #[.agg (if pEnd b (A (Except.ok a)).1 = 0 then rqC op (A (Except.ok a)).2.1 (A (Except.ok a)).2.2.1 (A (Except.ok a)).2.2.2.1 (A (Except.ok a)).2.2.2.2 else rqC 0 0 ⟨#[]⟩ 0 0), .int .i64 (pEnd b (A (Except.ok a)).1)]) ∧ Below w.heap.size w w' := by
  have hbu1 : ∀ W : World, (Instr.build 58 #[(0, .string b)]).run Try.prog W = .ok (.agg #[.string b, .int .i64 0, .int .i64 0]) W := fun W => run_build W _ _ _ (by kernel_rfl)
  have hbu2 : ∀ (W : World) (z : Int), (Instr.build 24 #[(0, .int .i64 z)]).run Try.prog W = .ok (.agg #[.int .i64 z, .int .i64 0, .string ⟨#[]⟩, .int .i64 0, .int .i64 0]) W := fun W z => run_build W _ _ _ (by kernel_rfl)
  have hbu3 : ∀ W : World, (Instr.build 24 #[]).run Try.prog W = .ok (.agg #[.int .i64 0, .int .i64 0, .string ⟨#[]⟩, .int .i64 0, .int .i64 0]) W := fun W => run_build W _ _ _ (by kernel_rfl)
  have hfd : ∀ W : World, (Instr.field 67 (.agg #[x0, .func (.func 75) #[] #[], x2, x3, x4, x5]) 1).run Try.prog W = .ok (.func (.func 75) #[] #[]) W := fun _ => by kernel_rfl
  have C := Lib.hid (fun r W h => head_calls 81 r b hb W h)
  have E := Lib.hid (fun r W h => end_calls r b hb (A (Except.ok a)).1 W h)
  have F := Lib.hid (fun B r q W h1 h2 h3 h4 h5 => hf B r q op (Except.ok a) W h1 h2 h3 h4 h5)
  have O := Lib.hid (fun W => operations_calls W)
  rw [ha, hop] at C
  generalize A (Except.ok a) = res at E F ⊢
  obtain ⟨s1, i1, c1, k1, r1⟩ := res
  simp only at E F ⊢
  unfold rqC
  obtain ⟨en, hen⟩ : ∃ en, pEnd b s1 = en := ⟨_, rfl⟩
  rw [hen] at E ⊢
  obtain ⟨ag, hag⟩ : ∃ ag, (if en = 0 then (#[.int .i64 op, .int .i64 i1, .string c1, .int .i64 k1, .int .i64 r1] : Array Value) else #[.int .i64 0, .int .i64 0, .string ⟨#[]⟩, .int .i64 0, .int .i64 0]) = ag := ⟨_, rfl⟩
  rw [hag]
  have HAG := Lib.hid hag
  clear hf ha hop hen hag
  go_enter Try.func11, Try.ntmps11
  go_wp2_with fail
  obtain ⟨W, hW, hz, hRd, hRq, hBl⟩ := prep w b
  rw [hW]
  clear hW
  refine (C.out _ _ hRd).mono ?_
  rintro x w1 ⟨rfl, hs, hg1⟩
  have hc2 : ∀ o, (w1.alloc o).cell? ⟨w.heap.size + 1, 2, none⟩ = some (.int .i64 0) := fun o => (hs.2.alloc o).cells.2.2.1
  have HS := Lib.hid hs
  have HRq := Lib.hid (hRq.of (grown_heap hg1 (by omega) (by omega)))
  have HBl := Lib.hid (grown_below hBl hg1 (by omega) (fun k h => by cases h; omega))
  have hsz : W.heap.size ≤ w1.heap.size := hg1.size
  clear hs hRq hBl hg1 hRd
  go_wp2_with fail
  have HQ := Lib.hid (Rq.new w1 op 0 ⟨#[]⟩ 0 0)
  have HS2 := Lib.hid (HS.out.alloc (.cells #[.int .i64 op, .int .i64 0, .string ⟨#[]⟩, .int .i64 0, .int .i64 0] 24))
  have HRq2 := Lib.hid (HRq.out.alloc (.cells #[.int .i64 op, .int .i64 0, .string ⟨#[]⟩, .int .i64 0, .int .i64 0] 24))
  have HBl2 := Lib.hid (HBl.out.alloc (by omega) (.cells #[.int .i64 op, .int .i64 0, .string ⟨#[]⟩, .int .i64 0, .int .i64 0] 24))
  obtain ⟨Q, hQ⟩ : ∃ Q, w1.heap.size = Q := ⟨_, rfl⟩
  have hsz2 : w1.heap.size < (w1.alloc (.cells #[.int .i64 op, .int .i64 0, .string ⟨#[]⟩, .int .i64 0, .int .i64 0] 24)).heap.size := by simp
  generalize w1.alloc (.cells #[.int .i64 op, .int .i64 0, .string ⟨#[]⟩, .int .i64 0, .int .i64 0] 24) = w2 at HQ HS2 HRq2 HBl2 hsz2 ⊢
  rw [hQ] at HQ hsz hsz2 ⊢
  obtain ⟨q0, q1, q2, q3, q4, qf⟩ := HQ.out.cells
  clear hc2 qf q1 q2 q3 q4
  have hr2 := HS2.out.lt
  have hp2 := HRq2.out.lt
  go_region_held3 (fun W => W.cell? ⟨Q, 0, none⟩ = some (.int .i64 op))
    (first | exact e4 | exact e3 | exact q0)
    (first | (go_at_call 24; refine (O.out _).mono ?_; rintro x w3 ⟨rfl, k3⟩; have R3 := HS2.out.of (k3.block _ hr2); have P3 := HRq2.out.of (k3.block _ hp2); have Q3 := HQ.out.of (k3.block _ hsz2); have B3 := (HBl2.out.trans ((show Below w2.heap.size w2 w3 from ⟨k3.os, k3.tape, k3.output, k3.size, k3.block⟩).mono (Nat.le_of_lt hp2))); have e3 := Q3.cells.1) | (refine (F.out (w.heap.size + 1) _ _ _ (Nat.le_refl _) (by omega) (by omega) R3 Q3).mono ?_; rintro x w4 ⟨rfl, R4, Q4, k4⟩; have e4 := Q4.cells.1))
  have HQ4 := Lib.hid Q4
  have HP4 := Lib.hid (P3.of (k4.block _ (Nat.lt_succ_self _)))
  have HR4 := Lib.hid R4
  have HB4 := Lib.hid (B3.trans (k4.mono (Nat.le_succ _)))
  have hs4 : Q < w4.heap.size := Q4.lt
  clear Q4 P3 k4 R4 B3 R3 Q3 e3 e4 k3 q0
  go_wp2_with fail
  refine (E.out _ _ HR4.out).mono ?_
  rintro x w5 ⟨rfl, hg5⟩
  have HP5 := Lib.hid (HP4.out.of (grown_heap hg5 (by omega) (by omega)))
  have HQ5 := Lib.hid (HQ4.out.of (grown_heap hg5 hs4 (by omega)))
  have HB5 := Lib.hid (grown_below HB4.out hg5 (by omega) (fun k h => by cases h; omega))
  obtain ⟨p0, p1, p2, p3, p4, pf⟩ := HP5.out.cells
  obtain ⟨q0, q1, q2, q3, q4, qf⟩ := HQ5.out.cells
  have f0 := pf 0
  have f1 := pf 1
  have f2 := pf 2
  have f3 := pf 3
  have f4 := pf 4
  have hQp : Q ≠ w.heap.size := by omega
  clear pf qf hg5
  by_cases h0 : en = 0
  · subst h0
    have hag := HAG.out
    rw [if_pos rfl] at hag
    subst hag
    go_wp2
    have hbl := below_five HB5.out (Nat.le_refl _) (.int .i64 op) (.int .i64 i1) (.string c1) (.int .i64 k1) (.int .i64 r1)
    refine bodyPost_ret (v := .tuple #[.agg #[.int .i64 op, .int .i64 i1, .string c1, .int .i64 k1, .int .i64 r1], .int .i64 0]) ?_ rfl ⟨rfl, hbl⟩
    rw [results_cell_tmp rfl]
    go_simp
  · have hag := HAG.out
    rw [if_neg h0] at hag
    subst hag
    have h1 : (en == 0) = false := by rw [beq_eq_false_iff_ne]; exact h0
    clear h0
    go_wp2
    have hbl := below_five HB5.out (Nat.le_refl _) (.int .i64 0) (.int .i64 0) (.string ⟨#[]⟩) (.int .i64 0) (.int .i64 0)
    refine bodyPost_ret (v := .tuple #[.agg #[.int .i64 0, .int .i64 0, .string ⟨#[]⟩, .int .i64 0, .int .i64 0], .int .i64 en]) ?_ rfl ⟨rfl, hbl⟩
    rw [results_cell_tmp rfl]
    go_simp
set_option maxRecDepth 100000 in
set_option maxHeartbeats 1000000 in
theorem asked_op_6 (b : ByteArray) (hb : b.size ≤ 4611686018427387904) (a : Nat) (op : Int) (ha : hd2 b 81 = Except.ok a) (hop : hdv b 81 = op) (A : St → St × Int × ByteArray × Int × Int) (hf : Asks 49 b A) (x0 x2 x3 x4 x5 : Value)
    (hidx : ∀ W : World, (Instr.index 68 (.agg opsT) (.int .i64 op)).run Try.prog W = .ok (.agg #[x0, .func (.func 49) #[] #[], x2, x3, x4, x5]) W) (w : World) :
    Calls Try.prog 11 #[.string b] w fun x w' => x = .returned (.tuple #[.agg (if pEnd b (A (Except.ok a)).1 = 0 then rqC op (A (Except.ok a)).2.1 (A (Except.ok a)).2.2.1 (A (Except.ok a)).2.2.2.1 (A (Except.ok a)).2.2.2.2 else rqC 0 0 ⟨#[]⟩ 0 0), .int .i64 (pEnd b (A (Except.ok a)).1)]) ∧ Below w.heap.size w w' := by
  have hbu1 : ∀ W : World, (Instr.build 58 #[(0, .string b)]).run Try.prog W = .ok (.agg #[.string b, .int .i64 0, .int .i64 0]) W := fun W => run_build W _ _ _ (by kernel_rfl)
  have hbu2 : ∀ (W : World) (z : Int), (Instr.build 24 #[(0, .int .i64 z)]).run Try.prog W = .ok (.agg #[.int .i64 z, .int .i64 0, .string ⟨#[]⟩, .int .i64 0, .int .i64 0]) W := fun W z => run_build W _ _ _ (by kernel_rfl)
  have hbu3 : ∀ W : World, (Instr.build 24 #[]).run Try.prog W = .ok (.agg #[.int .i64 0, .int .i64 0, .string ⟨#[]⟩, .int .i64 0, .int .i64 0]) W := fun W => run_build W _ _ _ (by kernel_rfl)
  have hfd : ∀ W : World, (Instr.field 67 (.agg #[x0, .func (.func 49) #[] #[], x2, x3, x4, x5]) 1).run Try.prog W = .ok (.func (.func 49) #[] #[]) W := fun _ => by kernel_rfl
  have C := Lib.hid (fun r W h => head_calls 81 r b hb W h)
  have E := Lib.hid (fun r W h => end_calls r b hb (A (Except.ok a)).1 W h)
  have F := Lib.hid (fun B r q W h1 h2 h3 h4 h5 => hf B r q op (Except.ok a) W h1 h2 h3 h4 h5)
  have O := Lib.hid (fun W => operations_calls W)
  rw [ha, hop] at C
  generalize A (Except.ok a) = res at E F ⊢
  obtain ⟨s1, i1, c1, k1, r1⟩ := res
  simp only at E F ⊢
  unfold rqC
  obtain ⟨en, hen⟩ : ∃ en, pEnd b s1 = en := ⟨_, rfl⟩
  rw [hen] at E ⊢
  obtain ⟨ag, hag⟩ : ∃ ag, (if en = 0 then (#[.int .i64 op, .int .i64 i1, .string c1, .int .i64 k1, .int .i64 r1] : Array Value) else #[.int .i64 0, .int .i64 0, .string ⟨#[]⟩, .int .i64 0, .int .i64 0]) = ag := ⟨_, rfl⟩
  rw [hag]
  have HAG := Lib.hid hag
  clear hf ha hop hen hag
  go_enter Try.func11, Try.ntmps11
  go_wp2_with fail
  obtain ⟨W, hW, hz, hRd, hRq, hBl⟩ := prep w b
  rw [hW]
  clear hW
  refine (C.out _ _ hRd).mono ?_
  rintro x w1 ⟨rfl, hs, hg1⟩
  have hc2 : ∀ o, (w1.alloc o).cell? ⟨w.heap.size + 1, 2, none⟩ = some (.int .i64 0) := fun o => (hs.2.alloc o).cells.2.2.1
  have HS := Lib.hid hs
  have HRq := Lib.hid (hRq.of (grown_heap hg1 (by omega) (by omega)))
  have HBl := Lib.hid (grown_below hBl hg1 (by omega) (fun k h => by cases h; omega))
  have hsz : W.heap.size ≤ w1.heap.size := hg1.size
  clear hs hRq hBl hg1 hRd
  go_wp2_with fail
  have HQ := Lib.hid (Rq.new w1 op 0 ⟨#[]⟩ 0 0)
  have HS2 := Lib.hid (HS.out.alloc (.cells #[.int .i64 op, .int .i64 0, .string ⟨#[]⟩, .int .i64 0, .int .i64 0] 24))
  have HRq2 := Lib.hid (HRq.out.alloc (.cells #[.int .i64 op, .int .i64 0, .string ⟨#[]⟩, .int .i64 0, .int .i64 0] 24))
  have HBl2 := Lib.hid (HBl.out.alloc (by omega) (.cells #[.int .i64 op, .int .i64 0, .string ⟨#[]⟩, .int .i64 0, .int .i64 0] 24))
  obtain ⟨Q, hQ⟩ : ∃ Q, w1.heap.size = Q := ⟨_, rfl⟩
  have hsz2 : w1.heap.size < (w1.alloc (.cells #[.int .i64 op, .int .i64 0, .string ⟨#[]⟩, .int .i64 0, .int .i64 0] 24)).heap.size := by simp
  generalize w1.alloc (.cells #[.int .i64 op, .int .i64 0, .string ⟨#[]⟩, .int .i64 0, .int .i64 0] 24) = w2 at HQ HS2 HRq2 HBl2 hsz2 ⊢
  rw [hQ] at HQ hsz hsz2 ⊢
  obtain ⟨q0, q1, q2, q3, q4, qf⟩ := HQ.out.cells
  clear hc2 qf q1 q2 q3 q4
  have hr2 := HS2.out.lt
  have hp2 := HRq2.out.lt
  go_region_held3 (fun W => W.cell? ⟨Q, 0, none⟩ = some (.int .i64 op))
    (first | exact e4 | exact e3 | exact q0)
    (first | (go_at_call 24; refine (O.out _).mono ?_; rintro x w3 ⟨rfl, k3⟩; have R3 := HS2.out.of (k3.block _ hr2); have P3 := HRq2.out.of (k3.block _ hp2); have Q3 := HQ.out.of (k3.block _ hsz2); have B3 := (HBl2.out.trans ((show Below w2.heap.size w2 w3 from ⟨k3.os, k3.tape, k3.output, k3.size, k3.block⟩).mono (Nat.le_of_lt hp2))); have e3 := Q3.cells.1) | (refine (F.out (w.heap.size + 1) _ _ _ (Nat.le_refl _) (by omega) (by omega) R3 Q3).mono ?_; rintro x w4 ⟨rfl, R4, Q4, k4⟩; have e4 := Q4.cells.1))
  have HQ4 := Lib.hid Q4
  have HP4 := Lib.hid (P3.of (k4.block _ (Nat.lt_succ_self _)))
  have HR4 := Lib.hid R4
  have HB4 := Lib.hid (B3.trans (k4.mono (Nat.le_succ _)))
  have hs4 : Q < w4.heap.size := Q4.lt
  clear Q4 P3 k4 R4 B3 R3 Q3 e3 e4 k3 q0
  go_wp2_with fail
  refine (E.out _ _ HR4.out).mono ?_
  rintro x w5 ⟨rfl, hg5⟩
  have HP5 := Lib.hid (HP4.out.of (grown_heap hg5 (by omega) (by omega)))
  have HQ5 := Lib.hid (HQ4.out.of (grown_heap hg5 hs4 (by omega)))
  have HB5 := Lib.hid (grown_below HB4.out hg5 (by omega) (fun k h => by cases h; omega))
  obtain ⟨p0, p1, p2, p3, p4, pf⟩ := HP5.out.cells
  obtain ⟨q0, q1, q2, q3, q4, qf⟩ := HQ5.out.cells
  have f0 := pf 0
  have f1 := pf 1
  have f2 := pf 2
  have f3 := pf 3
  have f4 := pf 4
  have hQp : Q ≠ w.heap.size := by omega
  clear pf qf hg5
  by_cases h0 : en = 0
  · subst h0
    have hag := HAG.out
    rw [if_pos rfl] at hag
    subst hag
    go_wp2
    have hbl := below_five HB5.out (Nat.le_refl _) (.int .i64 op) (.int .i64 i1) (.string c1) (.int .i64 k1) (.int .i64 r1)
    refine bodyPost_ret (v := .tuple #[.agg #[.int .i64 op, .int .i64 i1, .string c1, .int .i64 k1, .int .i64 r1], .int .i64 0]) ?_ rfl ⟨rfl, hbl⟩
    rw [results_cell_tmp rfl]
    go_simp
  · have hag := HAG.out
    rw [if_neg h0] at hag
    subst hag
    have h1 : (en == 0) = false := by rw [beq_eq_false_iff_ne]; exact h0
    clear h0
    go_wp2
    have hbl := below_five HB5.out (Nat.le_refl _) (.int .i64 0) (.int .i64 0) (.string ⟨#[]⟩) (.int .i64 0) (.int .i64 0)
    refine bodyPost_ret (v := .tuple #[.agg #[.int .i64 0, .int .i64 0, .string ⟨#[]⟩, .int .i64 0, .int .i64 0], .int .i64 en]) ?_ rfl ⟨rfl, hbl⟩
    rw [results_cell_tmp rfl]
    go_simp

/-- What an operation reads of a request. -/
def askA (b : ByteArray) (op : Int) (s : St) : St × Int × ByteArray × Int × Int :=
  if op = 1 then ask1 b s else if op = 2 ∨ op = 3 then ask2 b s else if op = 4 then ask4 b s else if op = 5 then ask5 b s else ask6 b s
/-- What Asked answers. -/
def askedR (b : ByteArray) : Array Value × Int :=
  match hd2 b 81 with
  | .error e => (rqC 0 0 ⟨#[]⟩ 0 0, e)
  | .ok a => (if pEnd b (askA b (hdv b 81) (Except.ok a)).1 = 0 then rqC (hdv b 81) (askA b (hdv b 81) (Except.ok a)).2.1 (askA b (hdv b 81) (Except.ok a)).2.2.1 (askA b (hdv b 81) (Except.ok a)).2.2.2.1 (askA b (hdv b 81) (Except.ok a)).2.2.2.2 else rqC 0 0 ⟨#[]⟩ 0 0, pEnd b (askA b (hdv b 81) (Except.ok a)).1)
theorem hd_ok {b : ByteArray} {l : Int} {a : Nat} (h : hd2 b l = Except.ok a) : 1 ≤ hdv b l ∧ hdv b l ≤ 9 := by
  have hp := pHead_eq b l
  rw [h] at hp
  unfold pHead at hp
  split at hp
  · cases hp
  · split at hp
    · cases hp
    · split at hp
      · cases hp
      · split at hp
        · cases hp
        · next h4 =>
          have : bat b 1 = hdv b l := congrArg Prod.snd hp
          omega
theorem Asked_calls (b : ByteArray) (hb : b.size ≤ 4611686018427387904) (w : World) :
    Calls Try.prog 11 #[.string b] w fun x w' => x = .returned (.tuple #[.agg (askedR b).1, .int .i64 (askedR b).2]) ∧ Below w.heap.size w w' := by
  unfold askedR
  cases h : hd2 b 81 with
  | error e => exact asked_err b hb e h w
  | ok a =>
    simp only
    have hr := hd_ok h
    obtain ⟨op, hop⟩ : ∃ op, hdv b 81 = op := ⟨_, rfl⟩
    rw [hop] at hr ⊢
    have hc : op = 1 ∨ op = 2 ∨ op = 3 ∨ op = 4 ∨ op = 5 ∨ op = 6 ∨ op = 7 ∨ op = 8 ∨ op = 9 := by omega
    rcases hc with rfl | rfl | rfl | rfl | rfl | rfl | rfl | rfl | rfl
    · exact asked_op_1 b hb a 1 h hop (ask1 b) (asks1 b hb) _ _ _ _ _ opsAt1 w
    · exact asked_op_2 b hb a 2 h hop (ask2 b) (asks2 b hb) _ _ _ _ _ opsAt2 w
    · exact asked_op_2 b hb a 3 h hop (ask2 b) (asks2 b hb) _ _ _ _ _ opsAt3 w
    · exact asked_op_4 b hb a 4 h hop (ask4 b) (asks4 b hb) _ _ _ _ _ opsAt4 w
    · exact asked_op_5 b hb a 5 h hop (ask5 b) (asks5 b hb) _ _ _ _ _ opsAt5 w
    · exact asked_op_6 b hb a 6 h hop (ask6 b) (asks6 b) _ _ _ _ _ opsAt6 w
    · exact asked_op_6 b hb a 7 h hop (ask6 b) (asks6 b) _ _ _ _ _ opsAt7 w
    · exact asked_op_6 b hb a 8 h hop (ask6 b) (asks6 b) _ _ _ _ _ opsAt8 w
    · exact asked_op_6 b hb a 9 h hop (ask6 b) (asks6 b) _ _ _ _ _ opsAt9 w
end Go.Proofs.Ytabhjkaheghbhaa

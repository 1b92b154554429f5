/-
  WALKS: the program's Told. (Printed by toldgen.py.)
-/
import Derived.Test.YtabhjkaheghbhaaToldP
import Derived.Test.YtabhjkaheghbhaaTell
import Derived.BigRegion
namespace Go.Proofs.Ytabhjkaheghbhaa
open Go.RowKit
set_option linter.unusedVariables false

/-- What Told answers. -/
def TO (T : Nat) (en op code n : Int) (t : ByteArray) (L : List Hv) (x : Ending) (w w' : World) : Prop :=
  ∃ (v : Value) (op' code' n' : Int) (t' : ByteArray) (L' : List Hv), x = .returned (.tuple #[.int .i64 op', .agg #[.int .i64 code', .int .i64 n', .string t', v], .int .i64 en]) ∧ w'.ownsRow w.heap.size T 3 v L'.length (encH L') ∧ Below w.heap.size w w' ∧ (op', code', n', t', L') = (if en = 0 then (op, code, n, t, L) else (0, 0, 0, ⟨#[]⟩, []))
theorem prepT (w : World) (b : ByteArray) (T : TypeId) : ∃ W, (w.alloc (.cells #[.int .i64 0, .int .i64 0, .string ⟨#[]⟩, .slice none 0 0] 33)).alloc (.cells #[.string b, .int .i64 0, .int .i64 0] T) = W ∧ W.heap.size = w.heap.size + 1 + 1 ∧ Rd W T (w.heap.size + 1) b (Except.ok 0) ∧ Rp W w.heap.size 0 0 ⟨#[]⟩ (.slice none 0 0) ∧ Below w.heap.size w W := by
  refine ⟨_, rfl, by simp, ⟨Nat.zero_le _, ?_⟩, ?_, ((Below.refl _ w).alloc (Nat.le_refl _) _).alloc (by simp) _⟩
  · have e : ∀ o, (w.alloc o).heap.size = w.heap.size + 1 := fun o => by simp
    have := heap_alloc_last (w.alloc (.cells #[.int .i64 0, .int .i64 0, .string ⟨#[]⟩, .slice none 0 0] 33)) (.cells #[.string b, .int .i64 0, .int .i64 0] T)
    rw [e] at this
    exact this
  · exact (Below.heap_alloc _ _ _ (by simp)).trans (heap_alloc_last w _)
theorem below_four {B : Nat} {a w : World} (h : Below B a w) {g : Nat} (hg : B ≤ g) (u0 u1 u2 u3 : Value) : Below B a ((((w.setCell ⟨g, 0, none⟩ u0).setCell ⟨g, 1, none⟩ u1).setCell ⟨g, 2, none⟩ u2).setCell ⟨g, 3, none⟩ u3) :=
  (((h.setCell (p := ⟨g, 0, none⟩) hg u0).setCell (p := ⟨g, 1, none⟩) hg u1).setCell (p := ⟨g, 2, none⟩) hg u2).setCell (p := ⟨g, 3, none⟩) hg u3
theorem own_four {w : World} {base : Nat} {e : TypeId} {v : Value} {n : Nat} {xs : List Value} (h : w.ownsRow base e 3 v n xs) {q : Nat} (hq : v.ownBlock ≠ some q) (u0 u1 u2 u3 : Value) : ((((w.setCell ⟨q, 0, none⟩ u0).setCell ⟨q, 1, none⟩ u1).setCell ⟨q, 2, none⟩ u2).setCell ⟨q, 3, none⟩ u3).ownsRow base e 3 v n xs :=
  own_set3 (own_set3 (own_set3 (own_set3 h hq u0) hq u1) hq u2) hq u3

set_option maxRecDepth 100000 in
set_option maxHeartbeats 1000000 in
theorem told_err (b : ByteArray) (hb : b.size ≤ 4611686018427387904) (op code : Int) (hop : hdv b 82 = op) (e : Int) (hp : pNum b 999 13 (hd2 b 82) = (Except.error e, code)) (w : World) :
    Calls Try.prog 16 #[.string b] w fun x w' => TO 35 (pEnd b (Except.error e)) op code 0 ⟨#[]⟩ [] x w w' := by
  have hbu1 : ∀ W : World, (Instr.build 58 #[(0, .string b)]).run Try.prog W = .ok (.agg #[.string b, .int .i64 0, .int .i64 0]) W := fun W => run_build W _ _ _ (by kernel_rfl)
  have hbu2 : ∀ (W : World) (z : Int), (Instr.build 33 #[(0, .int .i64 z)]).run Try.prog W = .ok (.agg #[.int .i64 z, .int .i64 0, .string ⟨#[]⟩, .slice none 0 0]) W := fun W z => run_build W _ _ _ (by kernel_rfl)
  have hbu3 : ∀ W : World, (Instr.build 33 #[]).run Try.prog W = .ok (.agg #[.int .i64 0, .int .i64 0, .string ⟨#[]⟩, .slice none 0 0]) W := fun W => run_build W _ _ _ (by kernel_rfl)
  have C := Lib.hid (fun r W h => head_calls 82 r b hb W h)
  have D := Lib.hid (fun r W h => upTo_calls 999 (by decide) 13 (by decide) r b hb (hd2 b 82) W h)
  rw [hop] at C
  rw [hp] at D
  have E := Lib.hid (fun r W h => end_calls r b hb (Except.error e) W h)
  generalize hd2 b 82 = s0 at C D hp
  generalize hen : pEnd b (Except.error e) = en at E ⊢
  clear hop hp hen
  go_enter Try.func16, Try.ntmps16
  go_wp2_with fail
  obtain ⟨W, hW, hz, hRd, hRp, hBl⟩ := prepT w b 58
  rw [hW]
  clear hW
  refine (C.out _ _ hRd).mono ?_
  rintro x w1 ⟨rfl, hs, hg1⟩
  have HS1 := Lib.hid hs
  have HRp1 := Lib.hid (hRp.of (grown_heap hg1 (by omega) (by omega)))
  have HBl1 := Lib.hid (grown_below hBl hg1 (by omega) (fun k h => by cases h; omega))
  have hsz : W.heap.size ≤ w1.heap.size := hg1.size
  clear hs hRp hBl hg1 hRd
  go_wp2_with fail
  refine (D.out _ _ HS1.out).mono ?_
  rintro x w2 ⟨rfl, hs, hg1⟩
  have HS2 := Lib.hid hs
  have HRp2 := Lib.hid (HRp1.out.of (grown_heap hg1 (by omega) (by omega)))
  have HBl2 := Lib.hid (grown_below HBl1.out hg1 (by omega) (fun k h => by cases h; omega))
  have hsz2 : W.heap.size ≤ w2.heap.size := Nat.le_trans hsz hg1.size
  clear hs hg1 HS1 HRp1 HBl1 hsz
  have HQ3 := Lib.hid (Rp.new w2 code 0 ⟨#[]⟩ (.slice none 0 0))
  have HS3 := Lib.hid (HS2.out.alloc (.cells #[.int .i64 code, .int .i64 0, .string ⟨#[]⟩, .slice none 0 0] 33))
  have HRp3 := Lib.hid (HRp2.out.alloc (.cells #[.int .i64 code, .int .i64 0, .string ⟨#[]⟩, .slice none 0 0] 33))
  have HBl3 := Lib.hid (HBl2.out.alloc (by omega) (.cells #[.int .i64 code, .int .i64 0, .string ⟨#[]⟩, .slice none 0 0] 33))
  have hQp : w2.heap.size ≠ w.heap.size := by omega
  have hQr : w2.heap.size ≠ w.heap.size + 1 := by omega
  have hQB : w.heap.size + 1 ≤ w2.heap.size := by omega
  go_upto_region 4 with fail
  obtain ⟨Q, hQ⟩ : ∃ Q, w2.heap.size = Q := ⟨_, rfl⟩
  generalize w2.alloc (.cells #[.int .i64 code, .int .i64 0, .string ⟨#[]⟩, .slice none 0 0] 33) = w3 at HQ3 HS3 HRp3 HBl3 ⊢
  rw [hQ] at HQ3 hQp hQr hQB ⊢
  clear hQ HS2 HRp2 HBl2 hsz2 hz
  obtain ⟨q0, q1, q2, q3, qf⟩ := HQ3.out.cells
  clear qf q1 q2 q3
  obtain ⟨e', c2, he⟩ := HS3.out.bad
  simp only at he
  have HSe := HS3
  have HQe := HQ3
  have HRpe := HRp3
  have HBle := HBl3
  go_wp2_with fail
  refine (E.out _ _ HSe.out).mono ?_
  rintro x w9 ⟨rfl, hg9⟩
  have HP9 := Lib.hid (HRpe.out.of (grown_heap hg9 HRpe.out.lt (by omega)))
  have HQ9 := Lib.hid (HQe.out.of (grown_heap hg9 HQe.out.lt hQr))
  have HB9 := Lib.hid (grown_below HBle.out hg9 (by have := HRpe.out.lt; omega) (fun k h => by cases h; omega))
  have OW := Lib.hid (own_nil w9 w.heap.size 35)
  have hvw : (Value.slice none 0 0).ownBlock ≠ some w.heap.size := by simp [Value.ownBlock]
  obtain ⟨g0, g1, g2, g3, pf⟩ := HP9.out.cells
  obtain ⟨q0, q1, q2, q3, qf⟩ := HQ9.out.cells
  have f0 := pf 0
  have f1 := pf 1
  have f2 := pf 2
  have f3 := pf 3
  clear pf qf hg9
  by_cases h0 : en = 0
  · subst h0
    go_wp2
    go_region
    have hbl := below_four HB9.out.drew (Nat.le_refl _) (.int .i64 code) (.int .i64 0) (.string ⟨#[]⟩) (.slice none 0 0)
    have how := own_four (w := w9.drew) OW.out hvw (.int .i64 code) (.int .i64 0) (.string ⟨#[]⟩) (.slice none 0 0)
    go_wp2
    refine bodyPost_ret (v := .tuple #[.int .i64 op, .agg #[.int .i64 code, .int .i64 0, .string ⟨#[]⟩, (.slice none 0 0)], .int .i64 0]) ?_ rfl ⟨_, _, _, _, _, _, rfl, how, hbl, by rw [if_pos rfl]⟩
    rw [results_tct rfl]
    go_simp
  · have h1 : (en == 0) = false := by rw [beq_eq_false_iff_ne]; exact h0
    have HH0 := Lib.hid h0
    clear h0
    go_wp2
    have hbl := below_four HB9.out (Nat.le_refl _) (.int .i64 0) (.int .i64 0) (.string ⟨#[]⟩) (.slice none 0 0)
    refine bodyPost_ret (v := .tuple #[.int .i64 0, .agg #[.int .i64 0, .int .i64 0, .string ⟨#[]⟩, .slice none 0 0], .int .i64 en]) ?_ rfl ⟨_, _, _, _, _, [], rfl, own_nil _ _ _, hbl, by rw [if_neg HH0.out]⟩
    rw [results_tct rfl]
    go_simp

set_option maxRecDepth 100000 in
set_option maxHeartbeats 1000000 in
theorem told_code (b : ByteArray) (hb : b.size ≤ 4611686018427387904) (op code : Int) (hop : hdv b 82 = op) (a : Nat) (hp : pNum b 999 13 (hd2 b 82) = (Except.ok a, code)) (hc : code ≠ 0) (w : World) :
    Calls Try.prog 16 #[.string b] w fun x w' => TO 35 (pEnd b (Except.ok a)) op code 0 ⟨#[]⟩ [] x w w' := by
  have hbu1 : ∀ W : World, (Instr.build 58 #[(0, .string b)]).run Try.prog W = .ok (.agg #[.string b, .int .i64 0, .int .i64 0]) W := fun W => run_build W _ _ _ (by kernel_rfl)
  have hbu2 : ∀ (W : World) (z : Int), (Instr.build 33 #[(0, .int .i64 z)]).run Try.prog W = .ok (.agg #[.int .i64 z, .int .i64 0, .string ⟨#[]⟩, .slice none 0 0]) W := fun W z => run_build W _ _ _ (by kernel_rfl)
  have hbu3 : ∀ W : World, (Instr.build 33 #[]).run Try.prog W = .ok (.agg #[.int .i64 0, .int .i64 0, .string ⟨#[]⟩, .slice none 0 0]) W := fun W => run_build W _ _ _ (by kernel_rfl)
  have C := Lib.hid (fun r W h => head_calls 82 r b hb W h)
  have D := Lib.hid (fun r W h => upTo_calls 999 (by decide) 13 (by decide) r b hb (hd2 b 82) W h)
  rw [hop] at C
  rw [hp] at D
  have E := Lib.hid (fun r W h => end_calls r b hb (Except.ok a) W h)
  generalize hd2 b 82 = s0 at C D hp
  generalize hen : pEnd b (Except.ok a) = en at E ⊢
  clear hop hp hen
  go_enter Try.func16, Try.ntmps16
  go_wp2_with fail
  obtain ⟨W, hW, hz, hRd, hRp, hBl⟩ := prepT w b 58
  rw [hW]
  clear hW
  refine (C.out _ _ hRd).mono ?_
  rintro x w1 ⟨rfl, hs, hg1⟩
  have HS1 := Lib.hid hs
  have HRp1 := Lib.hid (hRp.of (grown_heap hg1 (by omega) (by omega)))
  have HBl1 := Lib.hid (grown_below hBl hg1 (by omega) (fun k h => by cases h; omega))
  have hsz : W.heap.size ≤ w1.heap.size := hg1.size
  clear hs hRp hBl hg1 hRd
  go_wp2_with fail
  refine (D.out _ _ HS1.out).mono ?_
  rintro x w2 ⟨rfl, hs, hg1⟩
  have HS2 := Lib.hid hs
  have HRp2 := Lib.hid (HRp1.out.of (grown_heap hg1 (by omega) (by omega)))
  have HBl2 := Lib.hid (grown_below HBl1.out hg1 (by omega) (fun k h => by cases h; omega))
  have hsz2 : W.heap.size ≤ w2.heap.size := Nat.le_trans hsz hg1.size
  clear hs hg1 HS1 HRp1 HBl1 hsz
  have HQ3 := Lib.hid (Rp.new w2 code 0 ⟨#[]⟩ (.slice none 0 0))
  have HS3 := Lib.hid (HS2.out.alloc (.cells #[.int .i64 code, .int .i64 0, .string ⟨#[]⟩, .slice none 0 0] 33))
  have HRp3 := Lib.hid (HRp2.out.alloc (.cells #[.int .i64 code, .int .i64 0, .string ⟨#[]⟩, .slice none 0 0] 33))
  have HBl3 := Lib.hid (HBl2.out.alloc (by omega) (.cells #[.int .i64 code, .int .i64 0, .string ⟨#[]⟩, .slice none 0 0] 33))
  have hQp : w2.heap.size ≠ w.heap.size := by omega
  have hQr : w2.heap.size ≠ w.heap.size + 1 := by omega
  have hQB : w.heap.size + 1 ≤ w2.heap.size := by omega
  go_upto_region 4 with fail
  obtain ⟨Q, hQ⟩ : ∃ Q, w2.heap.size = Q := ⟨_, rfl⟩
  generalize w2.alloc (.cells #[.int .i64 code, .int .i64 0, .string ⟨#[]⟩, .slice none 0 0] 33) = w3 at HQ3 HS3 HRp3 HBl3 ⊢
  rw [hQ] at HQ3 hQp hQr hQB ⊢
  clear hQ HS2 HRp2 HBl2 hsz2 hz
  obtain ⟨q0, q1, q2, q3, qf⟩ := HQ3.out.cells
  clear qf q1 q2 q3
  have c2 : w3.cell? ⟨w.heap.size + 1, 2, none⟩ = some (.int .i64 0) := HS3.out.2.cells.2.2.1
  have hcb : (code == 0) = false := by rw [beq_eq_false_iff_ne]; exact hc
  clear hc
  have HSe := HS3
  have HQe := HQ3
  have HRpe := HRp3
  have HBle := HBl3
  go_wp2_with fail
  refine (E.out _ _ HSe.out).mono ?_
  rintro x w9 ⟨rfl, hg9⟩
  have HP9 := Lib.hid (HRpe.out.of (grown_heap hg9 HRpe.out.lt (by omega)))
  have HQ9 := Lib.hid (HQe.out.of (grown_heap hg9 HQe.out.lt hQr))
  have HB9 := Lib.hid (grown_below HBle.out hg9 (by have := HRpe.out.lt; omega) (fun k h => by cases h; omega))
  have OW := Lib.hid (own_nil w9 w.heap.size 35)
  have hvw : (Value.slice none 0 0).ownBlock ≠ some w.heap.size := by simp [Value.ownBlock]
  obtain ⟨g0, g1, g2, g3, pf⟩ := HP9.out.cells
  obtain ⟨q0, q1, q2, q3, qf⟩ := HQ9.out.cells
  have f0 := pf 0
  have f1 := pf 1
  have f2 := pf 2
  have f3 := pf 3
  clear pf qf hg9
  by_cases h0 : en = 0
  · subst h0
    go_wp2
    go_region
    have hbl := below_four HB9.out.drew (Nat.le_refl _) (.int .i64 code) (.int .i64 0) (.string ⟨#[]⟩) (.slice none 0 0)
    have how := own_four (w := w9.drew) OW.out hvw (.int .i64 code) (.int .i64 0) (.string ⟨#[]⟩) (.slice none 0 0)
    go_wp2
    refine bodyPost_ret (v := .tuple #[.int .i64 op, .agg #[.int .i64 code, .int .i64 0, .string ⟨#[]⟩, (.slice none 0 0)], .int .i64 0]) ?_ rfl ⟨_, _, _, _, _, _, rfl, how, hbl, by rw [if_pos rfl]⟩
    rw [results_tct rfl]
    go_simp
  · have h1 : (en == 0) = false := by rw [beq_eq_false_iff_ne]; exact h0
    have HH0 := Lib.hid h0
    clear h0
    go_wp2
    have hbl := below_four HB9.out (Nat.le_refl _) (.int .i64 0) (.int .i64 0) (.string ⟨#[]⟩) (.slice none 0 0)
    refine bodyPost_ret (v := .tuple #[.int .i64 0, .agg #[.int .i64 0, .int .i64 0, .string ⟨#[]⟩, .slice none 0 0], .int .i64 en]) ?_ rfl ⟨_, _, _, _, _, [], rfl, own_nil _ _ _, hbl, by rw [if_neg HH0.out]⟩
    rw [results_tct rfl]
    go_simp

set_option maxRecDepth 100000 in
set_option maxHeartbeats 1000000 in
theorem told_1 (b : ByteArray) (hb : b.size ≤ 4611686018427387904) (op code : Int) (hop : hdv b 82 = op) (a : Nat) (hp : pNum b 999 13 (hd2 b 82) = (Except.ok a, code)) (hc : code = 0) (x0 x1 x2 x3 x5 : FuncId) (hidx : ∀ W : World, (Instr.index 68 (.agg opsT) (.int .i64 op)).run Try.prog W = .ok (.agg #[.func (.func x0) #[] #[], .func (.func x1) #[] #[], .func (.func x2) #[] #[], .func (.func x3) #[] #[], .func (.func 52) #[] #[], .func (.func x5) #[] #[]]) W) (w : World) :
    Calls Try.prog 16 #[.string b] w fun x w' => TO 35 (pEnd b (toldR 1 b (Except.ok a)).1) op code (toldR 1 b (Except.ok a)).2.1 (toldR 1 b (Except.ok a)).2.2.1 (toldR 1 b (Except.ok a)).2.2.2 x w w' := by
  have hbu1 : ∀ W : World, (Instr.build 58 #[(0, .string b)]).run Try.prog W = .ok (.agg #[.string b, .int .i64 0, .int .i64 0]) W := fun W => run_build W _ _ _ (by kernel_rfl)
  have hbu2 : ∀ (W : World) (z : Int), (Instr.build 33 #[(0, .int .i64 z)]).run Try.prog W = .ok (.agg #[.int .i64 z, .int .i64 0, .string ⟨#[]⟩, .slice none 0 0]) W := fun W z => run_build W _ _ _ (by kernel_rfl)
  have hbu3 : ∀ W : World, (Instr.build 33 #[]).run Try.prog W = .ok (.agg #[.int .i64 0, .int .i64 0, .string ⟨#[]⟩, .slice none 0 0]) W := fun W => run_build W _ _ _ (by kernel_rfl)
  have C := Lib.hid (fun r W h => head_calls 82 r b hb W h)
  have D := Lib.hid (fun r W h => upTo_calls 999 (by decide) 13 (by decide) r b hb (hd2 b 82) W h)
  subst hc
  rw [hop] at C
  rw [hp] at D
  have E := Lib.hid (fun r W h => end_calls r b hb (toldR 1 b (Except.ok a)).1 W h)
  generalize hd2 b 82 = s0 at C D hp
  have hfd : ∀ W : World, (Instr.field 67 (.agg #[.func (.func x0) #[] #[], .func (.func x1) #[] #[], .func (.func x2) #[] #[], .func (.func x3) #[] #[], .func (.func 52) #[] #[], .func (.func x5) #[] #[]]) 4).run Try.prog W = .ok (.func (.func 52) #[] #[]) W := fun _ => by kernel_rfl
  have F := Lib.hid (fun B r q W h1 h2 h3 h4 h5 => tolds1 b B r q 0 (Except.ok a) W h1 h2 h3 h4 h5)
  have O := Lib.hid (fun W => operations_calls W)
  obtain ⟨s4, n4, t4, l4, h4⟩ : ∃ s4 n4 t4 l4, (toldR 1 b (Except.ok a)) = (s4, n4, t4, l4) := ⟨_, _, _, _, rfl⟩
  rw [h4] at E F ⊢
  simp only at E F ⊢
  clear h4
  generalize hen : pEnd b s4 = en at E ⊢
  clear hop hp hen
  go_enter Try.func16, Try.ntmps16
  go_wp2_with fail
  obtain ⟨W, hW, hz, hRd, hRp, hBl⟩ := prepT w b 58
  rw [hW]
  clear hW
  refine (C.out _ _ hRd).mono ?_
  rintro x w1 ⟨rfl, hs, hg1⟩
  have HS1 := Lib.hid hs
  have HRp1 := Lib.hid (hRp.of (grown_heap hg1 (by omega) (by omega)))
  have HBl1 := Lib.hid (grown_below hBl hg1 (by omega) (fun k h => by cases h; omega))
  have hsz : W.heap.size ≤ w1.heap.size := hg1.size
  clear hs hRp hBl hg1 hRd
  go_wp2_with fail
  refine (D.out _ _ HS1.out).mono ?_
  rintro x w2 ⟨rfl, hs, hg1⟩
  have HS2 := Lib.hid hs
  have HRp2 := Lib.hid (HRp1.out.of (grown_heap hg1 (by omega) (by omega)))
  have HBl2 := Lib.hid (grown_below HBl1.out hg1 (by omega) (fun k h => by cases h; omega))
  have hsz2 : W.heap.size ≤ w2.heap.size := Nat.le_trans hsz hg1.size
  clear hs hg1 HS1 HRp1 HBl1 hsz
  have HQ3 := Lib.hid (Rp.new w2 0 0 ⟨#[]⟩ (.slice none 0 0))
  have HS3 := Lib.hid (HS2.out.alloc (.cells #[.int .i64 0, .int .i64 0, .string ⟨#[]⟩, .slice none 0 0] 33))
  have HRp3 := Lib.hid (HRp2.out.alloc (.cells #[.int .i64 0, .int .i64 0, .string ⟨#[]⟩, .slice none 0 0] 33))
  have HBl3 := Lib.hid (HBl2.out.alloc (by omega) (.cells #[.int .i64 0, .int .i64 0, .string ⟨#[]⟩, .slice none 0 0] 33))
  have hQp : w2.heap.size ≠ w.heap.size := by omega
  have hQr : w2.heap.size ≠ w.heap.size + 1 := by omega
  have hQB : w.heap.size + 1 ≤ w2.heap.size := by omega
  go_upto_region 4 with fail
  obtain ⟨Q, hQ⟩ : ∃ Q, w2.heap.size = Q := ⟨_, rfl⟩
  generalize w2.alloc (.cells #[.int .i64 0, .int .i64 0, .string ⟨#[]⟩, .slice none 0 0] 33) = w3 at HQ3 HS3 HRp3 HBl3 ⊢
  rw [hQ] at HQ3 hQp hQr hQB ⊢
  clear hQ HS2 HRp2 HBl2 hsz2 hz
  obtain ⟨q0, q1, q2, q3, qf⟩ := HQ3.out.cells
  clear qf q1 q2 q3
  have c2 : w3.cell? ⟨w.heap.size + 1, 2, none⟩ = some (.int .i64 0) := HS3.out.2.cells.2.2.1
  go_wp2_with fail
  refine (O.out _).mono ?_
  rintro x w4 ⟨rfl, k4⟩
  have HS4 := Lib.hid (HS3.out.of (k4.block _ HS3.out.lt))
  have HQ4 := Lib.hid (HQ3.out.of (k4.block _ HQ3.out.lt))
  have HRp4 := Lib.hid (HRp3.out.of (k4.block _ HRp3.out.lt))
  have HBl4 := Lib.hid (HBl3.out.trans (k4.mono (Nat.le_of_lt HRp3.out.lt)))
  clear k4 c2 q0 HS3 HQ3 HRp3 HBl3
  go_wp2_with fail
  refine (F.out (w.heap.size + 1) _ _ _ (Nat.le_refl _) hQB hQr HS4.out HQ4.out).mono ?_
  rintro x w5 ⟨rfl, v5, hR5, hP5, hO5, hv5, hvr, b5⟩
  have HSe := Lib.hid hR5
  have HQe := Lib.hid hP5
  have HRpe := Lib.hid (HRp4.out.of (b5.block _ (Nat.lt_succ_self _)))
  have HBle := Lib.hid (HBl4.out.trans (b5.mono (Nat.le_succ _)))
  have hvw0 : v5.ownBlock ≠ some w.heap.size := fun e => by have := (hO5.lt _ e).1; omega
  have HO5 := Lib.hid hO5
  obtain ⟨p5, cap5, rfl, _⟩ := own_rd hO5
  clear hR5 hP5 hO5 b5 HS4 HQ4 HRp4 HBl4
  go_wp2_with fail
  refine (E.out _ _ HSe.out).mono ?_
  rintro x w9 ⟨rfl, hg9⟩
  have HP9 := Lib.hid (HRpe.out.of (grown_heap hg9 HRpe.out.lt (by omega)))
  have HQ9 := Lib.hid (HQe.out.of (grown_heap hg9 HQe.out.lt hQr))
  have HB9 := Lib.hid (grown_below HBle.out hg9 (by have := HRpe.out.lt; omega) (fun k h => by cases h; omega))
  have OW := Lib.hid (own_le (own_grown HO5.out hg9 (fun g hg e => hvr (by cases e; exact hg))) (Nat.le_succ w.heap.size))
  have hvw := hvw0
  obtain ⟨g0, g1, g2, g3, pf⟩ := HP9.out.cells
  obtain ⟨q0, q1, q2, q3, qf⟩ := HQ9.out.cells
  have f0 := pf 0
  have f1 := pf 1
  have f2 := pf 2
  have f3 := pf 3
  clear pf qf hg9
  by_cases h0 : en = 0
  · subst h0
    go_wp2
    go_region
    have hbl := below_four HB9.out.drew (Nat.le_refl _) (.int .i64 0) (.int .i64 n4) (.string t4) (.slice p5 l4.length cap5)
    have how := own_four (w := w9.drew) OW.out hvw (.int .i64 0) (.int .i64 n4) (.string t4) (.slice p5 l4.length cap5)
    go_wp2
    refine bodyPost_ret (v := .tuple #[.int .i64 op, .agg #[.int .i64 0, .int .i64 n4, .string t4, (.slice p5 l4.length cap5)], .int .i64 0]) ?_ rfl ⟨_, _, _, _, _, _, rfl, how, hbl, by rw [if_pos rfl]⟩
    rw [results_tct rfl]
    go_simp
  · have h1 : (en == 0) = false := by rw [beq_eq_false_iff_ne]; exact h0
    have HH0 := Lib.hid h0
    clear h0
    go_wp2
    have hbl := below_four HB9.out (Nat.le_refl _) (.int .i64 0) (.int .i64 0) (.string ⟨#[]⟩) (.slice none 0 0)
    refine bodyPost_ret (v := .tuple #[.int .i64 0, .agg #[.int .i64 0, .int .i64 0, .string ⟨#[]⟩, .slice none 0 0], .int .i64 en]) ?_ rfl ⟨_, _, _, _, _, [], rfl, own_nil _ _ _, hbl, by rw [if_neg HH0.out]⟩
    rw [results_tct rfl]
    go_simp

set_option maxRecDepth 100000 in
set_option maxHeartbeats 1000000 in
theorem told_3 (b : ByteArray) (hb : b.size ≤ 4611686018427387904) (op code : Int) (hop : hdv b 82 = op) (a : Nat) (hp : pNum b 999 13 (hd2 b 82) = (Except.ok a, code)) (hc : code = 0) (x0 x1 x2 x3 x5 : FuncId) (hidx : ∀ W : World, (Instr.index 68 (.agg opsT) (.int .i64 op)).run Try.prog W = .ok (.agg #[.func (.func x0) #[] #[], .func (.func x1) #[] #[], .func (.func x2) #[] #[], .func (.func x3) #[] #[], .func (.func 66) #[] #[], .func (.func x5) #[] #[]]) W) (w : World) :
    Calls Try.prog 16 #[.string b] w fun x w' => TO 35 (pEnd b (toldR 3 b (Except.ok a)).1) op code (toldR 3 b (Except.ok a)).2.1 (toldR 3 b (Except.ok a)).2.2.1 (toldR 3 b (Except.ok a)).2.2.2 x w w' := by
  have hbu1 : ∀ W : World, (Instr.build 58 #[(0, .string b)]).run Try.prog W = .ok (.agg #[.string b, .int .i64 0, .int .i64 0]) W := fun W => run_build W _ _ _ (by kernel_rfl)
  have hbu2 : ∀ (W : World) (z : Int), (Instr.build 33 #[(0, .int .i64 z)]).run Try.prog W = .ok (.agg #[.int .i64 z, .int .i64 0, .string ⟨#[]⟩, .slice none 0 0]) W := fun W z => run_build W _ _ _ (by kernel_rfl)
  have hbu3 : ∀ W : World, (Instr.build 33 #[]).run Try.prog W = .ok (.agg #[.int .i64 0, .int .i64 0, .string ⟨#[]⟩, .slice none 0 0]) W := fun W => run_build W _ _ _ (by kernel_rfl)
  have C := Lib.hid (fun r W h => head_calls 82 r b hb W h)
  have D := Lib.hid (fun r W h => upTo_calls 999 (by decide) 13 (by decide) r b hb (hd2 b 82) W h)
  subst hc
  rw [hop] at C
  rw [hp] at D
  have E := Lib.hid (fun r W h => end_calls r b hb (toldR 3 b (Except.ok a)).1 W h)
  generalize hd2 b 82 = s0 at C D hp
  have hfd : ∀ W : World, (Instr.field 67 (.agg #[.func (.func x0) #[] #[], .func (.func x1) #[] #[], .func (.func x2) #[] #[], .func (.func x3) #[] #[], .func (.func 66) #[] #[], .func (.func x5) #[] #[]]) 4).run Try.prog W = .ok (.func (.func 66) #[] #[]) W := fun _ => by kernel_rfl
  have F := Lib.hid (fun B r q W h1 h2 h3 h4 h5 => tolds3 b hb B r q 0 (Except.ok a) W h1 h2 h3 h4 h5)
  have O := Lib.hid (fun W => operations_calls W)
  obtain ⟨s4, n4, t4, l4, h4⟩ : ∃ s4 n4 t4 l4, (toldR 3 b (Except.ok a)) = (s4, n4, t4, l4) := ⟨_, _, _, _, rfl⟩
  rw [h4] at E F ⊢
  simp only at E F ⊢
  clear h4
  generalize hen : pEnd b s4 = en at E ⊢
  clear hop hp hen
  go_enter Try.func16, Try.ntmps16
  go_wp2_with fail
  obtain ⟨W, hW, hz, hRd, hRp, hBl⟩ := prepT w b 58
  rw [hW]
  clear hW
  refine (C.out _ _ hRd).mono ?_
  rintro x w1 ⟨rfl, hs, hg1⟩
  have HS1 := Lib.hid hs
  have HRp1 := Lib.hid (hRp.of (grown_heap hg1 (by omega) (by omega)))
  have HBl1 := Lib.hid (grown_below hBl hg1 (by omega) (fun k h => by cases h; omega))
  have hsz : W.heap.size ≤ w1.heap.size := hg1.size
  clear hs hRp hBl hg1 hRd
  go_wp2_with fail
  refine (D.out _ _ HS1.out).mono ?_
  rintro x w2 ⟨rfl, hs, hg1⟩
  have HS2 := Lib.hid hs
  have HRp2 := Lib.hid (HRp1.out.of (grown_heap hg1 (by omega) (by omega)))
  have HBl2 := Lib.hid (grown_below HBl1.out hg1 (by omega) (fun k h => by cases h; omega))
  have hsz2 : W.heap.size ≤ w2.heap.size := Nat.le_trans hsz hg1.size
  clear hs hg1 HS1 HRp1 HBl1 hsz
  have HQ3 := Lib.hid (Rp.new w2 0 0 ⟨#[]⟩ (.slice none 0 0))
  have HS3 := Lib.hid (HS2.out.alloc (.cells #[.int .i64 0, .int .i64 0, .string ⟨#[]⟩, .slice none 0 0] 33))
  have HRp3 := Lib.hid (HRp2.out.alloc (.cells #[.int .i64 0, .int .i64 0, .string ⟨#[]⟩, .slice none 0 0] 33))
  have HBl3 := Lib.hid (HBl2.out.alloc (by omega) (.cells #[.int .i64 0, .int .i64 0, .string ⟨#[]⟩, .slice none 0 0] 33))
  have hQp : w2.heap.size ≠ w.heap.size := by omega
  have hQr : w2.heap.size ≠ w.heap.size + 1 := by omega
  have hQB : w.heap.size + 1 ≤ w2.heap.size := by omega
  go_upto_region 4 with fail
  obtain ⟨Q, hQ⟩ : ∃ Q, w2.heap.size = Q := ⟨_, rfl⟩
  generalize w2.alloc (.cells #[.int .i64 0, .int .i64 0, .string ⟨#[]⟩, .slice none 0 0] 33) = w3 at HQ3 HS3 HRp3 HBl3 ⊢
  rw [hQ] at HQ3 hQp hQr hQB ⊢
  clear hQ HS2 HRp2 HBl2 hsz2 hz
  obtain ⟨q0, q1, q2, q3, qf⟩ := HQ3.out.cells
  clear qf q1 q2 q3
  have c2 : w3.cell? ⟨w.heap.size + 1, 2, none⟩ = some (.int .i64 0) := HS3.out.2.cells.2.2.1
  go_wp2_with fail
  refine (O.out _).mono ?_
  rintro x w4 ⟨rfl, k4⟩
  have HS4 := Lib.hid (HS3.out.of (k4.block _ HS3.out.lt))
  have HQ4 := Lib.hid (HQ3.out.of (k4.block _ HQ3.out.lt))
  have HRp4 := Lib.hid (HRp3.out.of (k4.block _ HRp3.out.lt))
  have HBl4 := Lib.hid (HBl3.out.trans (k4.mono (Nat.le_of_lt HRp3.out.lt)))
  clear k4 c2 q0 HS3 HQ3 HRp3 HBl3
  go_wp2_with fail
  refine (F.out (w.heap.size + 1) _ _ _ (Nat.le_refl _) hQB hQr HS4.out HQ4.out).mono ?_
  rintro x w5 ⟨rfl, v5, hR5, hP5, hO5, hv5, hvr, b5⟩
  have HSe := Lib.hid hR5
  have HQe := Lib.hid hP5
  have HRpe := Lib.hid (HRp4.out.of (b5.block _ (Nat.lt_succ_self _)))
  have HBle := Lib.hid (HBl4.out.trans (b5.mono (Nat.le_succ _)))
  have hvw0 : v5.ownBlock ≠ some w.heap.size := fun e => by have := (hO5.lt _ e).1; omega
  have HO5 := Lib.hid hO5
  obtain ⟨p5, cap5, rfl, _⟩ := own_rd hO5
  clear hR5 hP5 hO5 b5 HS4 HQ4 HRp4 HBl4
  go_wp2_with fail
  refine (E.out _ _ HSe.out).mono ?_
  rintro x w9 ⟨rfl, hg9⟩
  have HP9 := Lib.hid (HRpe.out.of (grown_heap hg9 HRpe.out.lt (by omega)))
  have HQ9 := Lib.hid (HQe.out.of (grown_heap hg9 HQe.out.lt hQr))
  have HB9 := Lib.hid (grown_below HBle.out hg9 (by have := HRpe.out.lt; omega) (fun k h => by cases h; omega))
  have OW := Lib.hid (own_le (own_grown HO5.out hg9 (fun g hg e => hvr (by cases e; exact hg))) (Nat.le_succ w.heap.size))
  have hvw := hvw0
  obtain ⟨g0, g1, g2, g3, pf⟩ := HP9.out.cells
  obtain ⟨q0, q1, q2, q3, qf⟩ := HQ9.out.cells
  have f0 := pf 0
  have f1 := pf 1
  have f2 := pf 2
  have f3 := pf 3
  clear pf qf hg9
  by_cases h0 : en = 0
  · subst h0
    go_wp2
    go_region
    have hbl := below_four HB9.out.drew (Nat.le_refl _) (.int .i64 0) (.int .i64 n4) (.string t4) (.slice p5 l4.length cap5)
    have how := own_four (w := w9.drew) OW.out hvw (.int .i64 0) (.int .i64 n4) (.string t4) (.slice p5 l4.length cap5)
    go_wp2
    refine bodyPost_ret (v := .tuple #[.int .i64 op, .agg #[.int .i64 0, .int .i64 n4, .string t4, (.slice p5 l4.length cap5)], .int .i64 0]) ?_ rfl ⟨_, _, _, _, _, _, rfl, how, hbl, by rw [if_pos rfl]⟩
    rw [results_tct rfl]
    go_simp
  · have h1 : (en == 0) = false := by rw [beq_eq_false_iff_ne]; exact h0
    have HH0 := Lib.hid h0
    clear h0
    go_wp2
    have hbl := below_four HB9.out (Nat.le_refl _) (.int .i64 0) (.int .i64 0) (.string ⟨#[]⟩) (.slice none 0 0)
    refine bodyPost_ret (v := .tuple #[.int .i64 0, .agg #[.int .i64 0, .int .i64 0, .string ⟨#[]⟩, .slice none 0 0], .int .i64 en]) ?_ rfl ⟨_, _, _, _, _, [], rfl, own_nil _ _ _, hbl, by rw [if_neg HH0.out]⟩
    rw [results_tct rfl]
    go_simp

set_option maxRecDepth 100000 in
set_option maxHeartbeats 1000000 in
theorem told_4 (b : ByteArray) (hb : b.size ≤ 4611686018427387904) (op code : Int) (hop : hdv b 82 = op) (a : Nat) (hp : pNum b 999 13 (hd2 b 82) = (Except.ok a, code)) (hc : code = 0) (x0 x1 x2 x3 x5 : FuncId) (hidx : ∀ W : World, (Instr.index 68 (.agg opsT) (.int .i64 op)).run Try.prog W = .ok (.agg #[.func (.func x0) #[] #[], .func (.func x1) #[] #[], .func (.func x2) #[] #[], .func (.func x3) #[] #[], .func (.func 69) #[] #[], .func (.func x5) #[] #[]]) W) (w : World) :
    Calls Try.prog 16 #[.string b] w fun x w' => TO 35 (pEnd b (toldR 4 b (Except.ok a)).1) op code (toldR 4 b (Except.ok a)).2.1 (toldR 4 b (Except.ok a)).2.2.1 (toldR 4 b (Except.ok a)).2.2.2 x w w' := by
  have hbu1 : ∀ W : World, (Instr.build 58 #[(0, .string b)]).run Try.prog W = .ok (.agg #[.string b, .int .i64 0, .int .i64 0]) W := fun W => run_build W _ _ _ (by kernel_rfl)
  have hbu2 : ∀ (W : World) (z : Int), (Instr.build 33 #[(0, .int .i64 z)]).run Try.prog W = .ok (.agg #[.int .i64 z, .int .i64 0, .string ⟨#[]⟩, .slice none 0 0]) W := fun W z => run_build W _ _ _ (by kernel_rfl)
  have hbu3 : ∀ W : World, (Instr.build 33 #[]).run Try.prog W = .ok (.agg #[.int .i64 0, .int .i64 0, .string ⟨#[]⟩, .slice none 0 0]) W := fun W => run_build W _ _ _ (by kernel_rfl)
  have C := Lib.hid (fun r W h => head_calls 82 r b hb W h)
  have D := Lib.hid (fun r W h => upTo_calls 999 (by decide) 13 (by decide) r b hb (hd2 b 82) W h)
  subst hc
  rw [hop] at C
  rw [hp] at D
  have E := Lib.hid (fun r W h => end_calls r b hb (toldR 4 b (Except.ok a)).1 W h)
  generalize hd2 b 82 = s0 at C D hp
  have hfd : ∀ W : World, (Instr.field 67 (.agg #[.func (.func x0) #[] #[], .func (.func x1) #[] #[], .func (.func x2) #[] #[], .func (.func x3) #[] #[], .func (.func 69) #[] #[], .func (.func x5) #[] #[]]) 4).run Try.prog W = .ok (.func (.func 69) #[] #[]) W := fun _ => by kernel_rfl
  have F := Lib.hid (fun B r q W h1 h2 h3 h4 h5 => tolds4 b hb B r q 0 (Except.ok a) W h1 h2 h3 h4 h5)
  have O := Lib.hid (fun W => operations_calls W)
  obtain ⟨s4, n4, t4, l4, h4⟩ : ∃ s4 n4 t4 l4, (toldR 4 b (Except.ok a)) = (s4, n4, t4, l4) := ⟨_, _, _, _, rfl⟩
  rw [h4] at E F ⊢
  simp only at E F ⊢
  clear h4
  generalize hen : pEnd b s4 = en at E ⊢
  clear hop hp hen
  go_enter Try.func16, Try.ntmps16
  go_wp2_with fail
  obtain ⟨W, hW, hz, hRd, hRp, hBl⟩ := prepT w b 58
  rw [hW]
  clear hW
  refine (C.out _ _ hRd).mono ?_
  rintro x w1 ⟨rfl, hs, hg1⟩
  have HS1 := Lib.hid hs
  have HRp1 := Lib.hid (hRp.of (grown_heap hg1 (by omega) (by omega)))
  have HBl1 := Lib.hid (grown_below hBl hg1 (by omega) (fun k h => by cases h; omega))
  have hsz : W.heap.size ≤ w1.heap.size := hg1.size
  clear hs hRp hBl hg1 hRd
  go_wp2_with fail
  refine (D.out _ _ HS1.out).mono ?_
  rintro x w2 ⟨rfl, hs, hg1⟩
  have HS2 := Lib.hid hs
  have HRp2 := Lib.hid (HRp1.out.of (grown_heap hg1 (by omega) (by omega)))
  have HBl2 := Lib.hid (grown_below HBl1.out hg1 (by omega) (fun k h => by cases h; omega))
  have hsz2 : W.heap.size ≤ w2.heap.size := Nat.le_trans hsz hg1.size
  clear hs hg1 HS1 HRp1 HBl1 hsz
  have HQ3 := Lib.hid (Rp.new w2 0 0 ⟨#[]⟩ (.slice none 0 0))
  have HS3 := Lib.hid (HS2.out.alloc (.cells #[.int .i64 0, .int .i64 0, .string ⟨#[]⟩, .slice none 0 0] 33))
  have HRp3 := Lib.hid (HRp2.out.alloc (.cells #[.int .i64 0, .int .i64 0, .string ⟨#[]⟩, .slice none 0 0] 33))
  have HBl3 := Lib.hid (HBl2.out.alloc (by omega) (.cells #[.int .i64 0, .int .i64 0, .string ⟨#[]⟩, .slice none 0 0] 33))
  have hQp : w2.heap.size ≠ w.heap.size := by omega
  have hQr : w2.heap.size ≠ w.heap.size + 1 := by omega
  have hQB : w.heap.size + 1 ≤ w2.heap.size := by omega
  go_upto_region 4 with fail
  obtain ⟨Q, hQ⟩ : ∃ Q, w2.heap.size = Q := ⟨_, rfl⟩
  generalize w2.alloc (.cells #[.int .i64 0, .int .i64 0, .string ⟨#[]⟩, .slice none 0 0] 33) = w3 at HQ3 HS3 HRp3 HBl3 ⊢
  rw [hQ] at HQ3 hQp hQr hQB ⊢
  clear hQ HS2 HRp2 HBl2 hsz2 hz
  obtain ⟨q0, q1, q2, q3, qf⟩ := HQ3.out.cells
  clear qf q1 q2 q3
  have c2 : w3.cell? ⟨w.heap.size + 1, 2, none⟩ = some (.int .i64 0) := HS3.out.2.cells.2.2.1
  go_wp2_with fail
  refine (O.out _).mono ?_
  rintro x w4 ⟨rfl, k4⟩
  have HS4 := Lib.hid (HS3.out.of (k4.block _ HS3.out.lt))
  have HQ4 := Lib.hid (HQ3.out.of (k4.block _ HQ3.out.lt))
  have HRp4 := Lib.hid (HRp3.out.of (k4.block _ HRp3.out.lt))
  have HBl4 := Lib.hid (HBl3.out.trans (k4.mono (Nat.le_of_lt HRp3.out.lt)))
  clear k4 c2 q0 HS3 HQ3 HRp3 HBl3
  go_wp2_with fail
  refine (F.out (w.heap.size + 1) _ _ _ (Nat.le_refl _) hQB hQr HS4.out HQ4.out).mono ?_
  rintro x w5 ⟨rfl, v5, hR5, hP5, hO5, hv5, hvr, b5⟩
  have HSe := Lib.hid hR5
  have HQe := Lib.hid hP5
  have HRpe := Lib.hid (HRp4.out.of (b5.block _ (Nat.lt_succ_self _)))
  have HBle := Lib.hid (HBl4.out.trans (b5.mono (Nat.le_succ _)))
  have hvw0 : v5.ownBlock ≠ some w.heap.size := fun e => by have := (hO5.lt _ e).1; omega
  have HO5 := Lib.hid hO5
  obtain ⟨p5, cap5, rfl, _⟩ := own_rd hO5
  clear hR5 hP5 hO5 b5 HS4 HQ4 HRp4 HBl4
  go_wp2_with fail
  refine (E.out _ _ HSe.out).mono ?_
  rintro x w9 ⟨rfl, hg9⟩
  have HP9 := Lib.hid (HRpe.out.of (grown_heap hg9 HRpe.out.lt (by omega)))
  have HQ9 := Lib.hid (HQe.out.of (grown_heap hg9 HQe.out.lt hQr))
  have HB9 := Lib.hid (grown_below HBle.out hg9 (by have := HRpe.out.lt; omega) (fun k h => by cases h; omega))
  have OW := Lib.hid (own_le (own_grown HO5.out hg9 (fun g hg e => hvr (by cases e; exact hg))) (Nat.le_succ w.heap.size))
  have hvw := hvw0
  obtain ⟨g0, g1, g2, g3, pf⟩ := HP9.out.cells
  obtain ⟨q0, q1, q2, q3, qf⟩ := HQ9.out.cells
  have f0 := pf 0
  have f1 := pf 1
  have f2 := pf 2
  have f3 := pf 3
  clear pf qf hg9
  by_cases h0 : en = 0
  · subst h0
    go_wp2
    go_region
    have hbl := below_four HB9.out.drew (Nat.le_refl _) (.int .i64 0) (.int .i64 n4) (.string t4) (.slice p5 l4.length cap5)
    have how := own_four (w := w9.drew) OW.out hvw (.int .i64 0) (.int .i64 n4) (.string t4) (.slice p5 l4.length cap5)
    go_wp2
    refine bodyPost_ret (v := .tuple #[.int .i64 op, .agg #[.int .i64 0, .int .i64 n4, .string t4, (.slice p5 l4.length cap5)], .int .i64 0]) ?_ rfl ⟨_, _, _, _, _, _, rfl, how, hbl, by rw [if_pos rfl]⟩
    rw [results_tct rfl]
    go_simp
  · have h1 : (en == 0) = false := by rw [beq_eq_false_iff_ne]; exact h0
    have HH0 := Lib.hid h0
    clear h0
    go_wp2
    have hbl := below_four HB9.out (Nat.le_refl _) (.int .i64 0) (.int .i64 0) (.string ⟨#[]⟩) (.slice none 0 0)
    refine bodyPost_ret (v := .tuple #[.int .i64 0, .agg #[.int .i64 0, .int .i64 0, .string ⟨#[]⟩, .slice none 0 0], .int .i64 en]) ?_ rfl ⟨_, _, _, _, _, [], rfl, own_nil _ _ _, hbl, by rw [if_neg HH0.out]⟩
    rw [results_tct rfl]
    go_simp

set_option maxRecDepth 100000 in
set_option maxHeartbeats 1000000 in
theorem told_6 (b : ByteArray) (hb : b.size ≤ 4611686018427387904) (op code : Int) (hop : hdv b 82 = op) (a : Nat) (hp : pNum b 999 13 (hd2 b 82) = (Except.ok a, code)) (hc : code = 0) (x0 x1 x2 x3 x5 : FuncId) (hidx : ∀ W : World, (Instr.index 68 (.agg opsT) (.int .i64 op)).run Try.prog W = .ok (.agg #[.func (.func x0) #[] #[], .func (.func x1) #[] #[], .func (.func x2) #[] #[], .func (.func x3) #[] #[], .func (.func 78) #[] #[], .func (.func x5) #[] #[]]) W) (w : World) :
    Calls Try.prog 16 #[.string b] w fun x w' => TO 35 (pEnd b (toldR 6 b (Except.ok a)).1) op code (toldR 6 b (Except.ok a)).2.1 (toldR 6 b (Except.ok a)).2.2.1 (toldR 6 b (Except.ok a)).2.2.2 x w w' := by
  have hbu1 : ∀ W : World, (Instr.build 58 #[(0, .string b)]).run Try.prog W = .ok (.agg #[.string b, .int .i64 0, .int .i64 0]) W := fun W => run_build W _ _ _ (by kernel_rfl)
  have hbu2 : ∀ (W : World) (z : Int), (Instr.build 33 #[(0, .int .i64 z)]).run Try.prog W = .ok (.agg #[.int .i64 z, .int .i64 0, .string ⟨#[]⟩, .slice none 0 0]) W := fun W z => run_build W _ _ _ (by kernel_rfl)
  have hbu3 : ∀ W : World, (Instr.build 33 #[]).run Try.prog W = .ok (.agg #[.int .i64 0, .int .i64 0, .string ⟨#[]⟩, .slice none 0 0]) W := fun W => run_build W _ _ _ (by kernel_rfl)
  have C := Lib.hid (fun r W h => head_calls 82 r b hb W h)
  have D := Lib.hid (fun r W h => upTo_calls 999 (by decide) 13 (by decide) r b hb (hd2 b 82) W h)
  subst hc
  rw [hop] at C
  rw [hp] at D
  have E := Lib.hid (fun r W h => end_calls r b hb (toldR 6 b (Except.ok a)).1 W h)
  generalize hd2 b 82 = s0 at C D hp
  have hfd : ∀ W : World, (Instr.field 67 (.agg #[.func (.func x0) #[] #[], .func (.func x1) #[] #[], .func (.func x2) #[] #[], .func (.func x3) #[] #[], .func (.func 78) #[] #[], .func (.func x5) #[] #[]]) 4).run Try.prog W = .ok (.func (.func 78) #[] #[]) W := fun _ => by kernel_rfl
  have F := Lib.hid (fun B r q W h1 h2 h3 h4 h5 => tolds6 b hb B r q 0 (Except.ok a) W h1 h2 h3 h4 h5)
  have O := Lib.hid (fun W => operations_calls W)
  obtain ⟨s4, n4, t4, l4, h4⟩ : ∃ s4 n4 t4 l4, (toldR 6 b (Except.ok a)) = (s4, n4, t4, l4) := ⟨_, _, _, _, rfl⟩
  rw [h4] at E F ⊢
  simp only at E F ⊢
  clear h4
  generalize hen : pEnd b s4 = en at E ⊢
  clear hop hp hen
  go_enter Try.func16, Try.ntmps16
  go_wp2_with fail
  obtain ⟨W, hW, hz, hRd, hRp, hBl⟩ := prepT w b 58
  rw [hW]
  clear hW
  refine (C.out _ _ hRd).mono ?_
  rintro x w1 ⟨rfl, hs, hg1⟩
  have HS1 := Lib.hid hs
  have HRp1 := Lib.hid (hRp.of (grown_heap hg1 (by omega) (by omega)))
  have HBl1 := Lib.hid (grown_below hBl hg1 (by omega) (fun k h => by cases h; omega))
  have hsz : W.heap.size ≤ w1.heap.size := hg1.size
  clear hs hRp hBl hg1 hRd
  go_wp2_with fail
  refine (D.out _ _ HS1.out).mono ?_
  rintro x w2 ⟨rfl, hs, hg1⟩
  have HS2 := Lib.hid hs
  have HRp2 := Lib.hid (HRp1.out.of (grown_heap hg1 (by omega) (by omega)))
  have HBl2 := Lib.hid (grown_below HBl1.out hg1 (by omega) (fun k h => by cases h; omega))
  have hsz2 : W.heap.size ≤ w2.heap.size := Nat.le_trans hsz hg1.size
  clear hs hg1 HS1 HRp1 HBl1 hsz
  have HQ3 := Lib.hid (Rp.new w2 0 0 ⟨#[]⟩ (.slice none 0 0))
  have HS3 := Lib.hid (HS2.out.alloc (.cells #[.int .i64 0, .int .i64 0, .string ⟨#[]⟩, .slice none 0 0] 33))
  have HRp3 := Lib.hid (HRp2.out.alloc (.cells #[.int .i64 0, .int .i64 0, .string ⟨#[]⟩, .slice none 0 0] 33))
  have HBl3 := Lib.hid (HBl2.out.alloc (by omega) (.cells #[.int .i64 0, .int .i64 0, .string ⟨#[]⟩, .slice none 0 0] 33))
  have hQp : w2.heap.size ≠ w.heap.size := by omega
  have hQr : w2.heap.size ≠ w.heap.size + 1 := by omega
  have hQB : w.heap.size + 1 ≤ w2.heap.size := by omega
  go_upto_region 4 with fail
  obtain ⟨Q, hQ⟩ : ∃ Q, w2.heap.size = Q := ⟨_, rfl⟩
  generalize w2.alloc (.cells #[.int .i64 0, .int .i64 0, .string ⟨#[]⟩, .slice none 0 0] 33) = w3 at HQ3 HS3 HRp3 HBl3 ⊢
  rw [hQ] at HQ3 hQp hQr hQB ⊢
  clear hQ HS2 HRp2 HBl2 hsz2 hz
  obtain ⟨q0, q1, q2, q3, qf⟩ := HQ3.out.cells
  clear qf q1 q2 q3
  have c2 : w3.cell? ⟨w.heap.size + 1, 2, none⟩ = some (.int .i64 0) := HS3.out.2.cells.2.2.1
  go_wp2_with fail
  refine (O.out _).mono ?_
  rintro x w4 ⟨rfl, k4⟩
  have HS4 := Lib.hid (HS3.out.of (k4.block _ HS3.out.lt))
  have HQ4 := Lib.hid (HQ3.out.of (k4.block _ HQ3.out.lt))
  have HRp4 := Lib.hid (HRp3.out.of (k4.block _ HRp3.out.lt))
  have HBl4 := Lib.hid (HBl3.out.trans (k4.mono (Nat.le_of_lt HRp3.out.lt)))
  clear k4 c2 q0 HS3 HQ3 HRp3 HBl3
  go_wp2_with fail
  refine (F.out (w.heap.size + 1) _ _ _ (Nat.le_refl _) hQB hQr HS4.out HQ4.out).mono ?_
  rintro x w5 ⟨rfl, v5, hR5, hP5, hO5, hv5, hvr, b5⟩
  have HSe := Lib.hid hR5
  have HQe := Lib.hid hP5
  have HRpe := Lib.hid (HRp4.out.of (b5.block _ (Nat.lt_succ_self _)))
  have HBle := Lib.hid (HBl4.out.trans (b5.mono (Nat.le_succ _)))
  have hvw0 : v5.ownBlock ≠ some w.heap.size := fun e => by have := (hO5.lt _ e).1; omega
  have HO5 := Lib.hid hO5
  obtain ⟨p5, cap5, rfl, _⟩ := own_rd hO5
  clear hR5 hP5 hO5 b5 HS4 HQ4 HRp4 HBl4
  go_wp2_with fail
  refine (E.out _ _ HSe.out).mono ?_
  rintro x w9 ⟨rfl, hg9⟩
  have HP9 := Lib.hid (HRpe.out.of (grown_heap hg9 HRpe.out.lt (by omega)))
  have HQ9 := Lib.hid (HQe.out.of (grown_heap hg9 HQe.out.lt hQr))
  have HB9 := Lib.hid (grown_below HBle.out hg9 (by have := HRpe.out.lt; omega) (fun k h => by cases h; omega))
  have OW := Lib.hid (own_le (own_grown HO5.out hg9 (fun g hg e => hvr (by cases e; exact hg))) (Nat.le_succ w.heap.size))
  have hvw := hvw0
  obtain ⟨g0, g1, g2, g3, pf⟩ := HP9.out.cells
  obtain ⟨q0, q1, q2, q3, qf⟩ := HQ9.out.cells
  have f0 := pf 0
  have f1 := pf 1
  have f2 := pf 2
  have f3 := pf 3
  clear pf qf hg9
  by_cases h0 : en = 0
  · subst h0
    go_wp2
    go_region
    have hbl := below_four HB9.out.drew (Nat.le_refl _) (.int .i64 0) (.int .i64 n4) (.string t4) (.slice p5 l4.length cap5)
    have how := own_four (w := w9.drew) OW.out hvw (.int .i64 0) (.int .i64 n4) (.string t4) (.slice p5 l4.length cap5)
    go_wp2
    refine bodyPost_ret (v := .tuple #[.int .i64 op, .agg #[.int .i64 0, .int .i64 n4, .string t4, (.slice p5 l4.length cap5)], .int .i64 0]) ?_ rfl ⟨_, _, _, _, _, _, rfl, how, hbl, by rw [if_pos rfl]⟩
    rw [results_tct rfl]
    go_simp
  · have h1 : (en == 0) = false := by rw [beq_eq_false_iff_ne]; exact h0
    have HH0 := Lib.hid h0
    clear h0
    go_wp2
    have hbl := below_four HB9.out (Nat.le_refl _) (.int .i64 0) (.int .i64 0) (.string ⟨#[]⟩) (.slice none 0 0)
    refine bodyPost_ret (v := .tuple #[.int .i64 0, .agg #[.int .i64 0, .int .i64 0, .string ⟨#[]⟩, .slice none 0 0], .int .i64 en]) ?_ rfl ⟨_, _, _, _, _, [], rfl, own_nil _ _ _, hbl, by rw [if_neg HH0.out]⟩
    rw [results_tct rfl]
    go_simp

end Go.Proofs.Ytabhjkaheghbhaa

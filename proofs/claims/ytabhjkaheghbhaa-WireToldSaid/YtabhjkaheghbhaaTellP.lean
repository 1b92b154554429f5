/-
  WALKS: parts of the program's Tell. (Printed by tellwgen.py.)
-/
import Derived.Test.YtabhjkaheghbhaaHit
import Derived.Test.YtabhjkaheghbhaaOps
namespace Go.Proofs.Ytabhjkaheghbhaa
open Go.RowKit
set_option linter.unusedVariables false

/-- A reply in memory. -/
def Rp (w : World) (q : Nat) (code n : Int) (t : ByteArray) (sl : Value) : Prop := w.heap[q]? = some (.cells #[.int .i64 code, .int .i64 n, .string t, sl] 33 (0, 0))
theorem Rp.cells {w : World} {q : Nat} {code n : Int} {t : ByteArray} {sl : Value} (h : Rp w q code n t sl) :
    w.cell? ⟨q, 0, none⟩ = some (.int .i64 code) ∧ w.cell? ⟨q, 1, none⟩ = some (.int .i64 n) ∧ w.cell? ⟨q, 2, none⟩ = some (.string t) ∧ w.cell? ⟨q, 3, none⟩ = some sl ∧ ∀ j, w.frozen? ⟨q, j, none⟩ = false := by
  unfold Rp at h
  simp [World.cell?, World.frozen?, h]
theorem Rp.lt {w : World} {q : Nat} {code n : Int} {t : ByteArray} {sl : Value} (h : Rp w q code n t sl) : q < w.heap.size := cell_lt' h.cells.1
theorem Rp.of {w w' : World} {q : Nat} {code n : Int} {t : ByteArray} {sl : Value} (h : Rp w q code n t sl) (e : w'.heap[q]? = w.heap[q]?) : Rp w' q code n t sl := e.trans h
theorem Rp.alloc {w : World} {q : Nat} {code n : Int} {t : ByteArray} {sl : Value} (h : Rp w q code n t sl) (o : Obj) : Rp (w.alloc o) q code n t sl := h.of (Below.heap_alloc _ _ _ h.lt)
theorem Rp.new (w : World) (code n : Int) (t : ByteArray) (sl : Value) : Rp (w.alloc (.cells #[.int .i64 code, .int .i64 n, .string t, sl] 33)) w.heap.size code n t sl := heap_alloc_last w _
theorem Wr.new' {B : Nat} (w : World) (hB : B ≤ w.heap.size) : Wr (w.alloc (.cells #[.pointer none, .slice none 0 0, .int .i64 0] 87)) B w.heap.size [] 0 :=
  .inl ⟨hB, _, heap_alloc_last w _, ⟨rfl, .inl ⟨rfl, rfl⟩⟩, by simp [Value.ownBlock]⟩
/-- Has a reply nothing but its code? -/
def zeroB (n : Int) (t : ByteArray) (m : Nat) : Bool := n == 0 && t.toList.isEmpty && (m == 0)
theorem zero_calls (code n : Int) (t : ByteArray) (p : Option Addr) (m cap : Nat) (w : World) :
    Calls Try.prog 32 #[.agg #[.int .i64 code, .int .i64 n, .string t, .slice p m cap]] w fun x w' => x = .returned (.bool (zeroB n t m)) ∧ Below w.heap.size w w' := by
  have HB := Lib.hid ((Below.refl w.heap.size w).alloc (Nat.le_refl _) (.cells #[.int .i64 code, .int .i64 n, .string t, .slice p m cap] 33))
  unfold zeroB
  by_cases h1 : n = 0
  · have d1 : (n == 0) = true := by rw [beq_iff_eq]; exact h1
    rw [d1, Bool.true_and]
    by_cases h2 : t.toList.isEmpty = true
    · rw [h2, Bool.true_and]
      have hm : (m == 0) = ((m : Int) == 0) := by
        by_cases h : m = 0
        · subst h; rfl
        · have e1 : (m == 0) = false := by rw [beq_eq_false_iff_ne]; exact h
          have e2 : ((m : Int) == 0) = false := by rw [beq_eq_false_iff_ne]; omega
          rw [e1, e2]
      rw [hm]
      clear hm
      generalize hb : ((m : Int) == 0) = b
      clear h1
      go_enter Try.func32, Try.ntmps32
      go_wp2
      go_ret
      exact ⟨rfl, HB.out⟩
    · have d2 : t.toList.isEmpty = false := by simpa using h2
      rw [d2, Bool.false_and]
      clear h1 h2
      go_enter Try.func32, Try.ntmps32
      go_wp2
      go_ret
      exact ⟨rfl, HB.out⟩
  · have d1 : (n == 0) = false := by rw [beq_eq_false_iff_ne]; exact h1
    rw [d1, Bool.false_and, Bool.false_and]
    clear h1
    go_enter Try.func32, Try.ntmps32
    go_wp2
    go_ret
    exact ⟨rfl, HB.out⟩

set_option maxRecDepth 100000 in
theorem e_emptyNone_calls (code n : Int) (t : ByteArray) (p : Option Addr) (m cap : Nat) (w : World) :
    Calls Try.prog 53 #[.agg #[.int .i64 code, .int .i64 n, .string t, .slice p m cap]] w fun x w' => x = .returned (.agg #[.int .i64 code, .int .i64 n, .string t, .slice p m cap]) ∧ Below w.heap.size w w' := by
  go_enter Try.func53, Try.ntmps53
  go_wp2
  refine bodyPost_ret (v := .agg #[.int .i64 code, .int .i64 n, .string t, .slice p m cap]) ?_ rfl ⟨rfl, ?_⟩
  · rw [opres_cell1 rfl]
    go_simp
  · exact ((Below.refl _ w).alloc (Nat.le_refl _) _).alloc (by simp) _

set_option maxRecDepth 100000 in
theorem e_operations_6_calls (code n : Int) (t : ByteArray) (p : Option Addr) (m cap : Nat) (w : World) :
    Calls Try.prog 67 #[.agg #[.int .i64 code, .int .i64 n, .string t, .slice p m cap]] w fun x w' => x = .returned (.agg #[.int .i64 code, .int .i64 n, .string ⟨#[]⟩, .slice p m cap]) ∧ Below w.heap.size w w' := by
  go_enter Try.func67, Try.ntmps67
  go_wp2
  refine bodyPost_ret (v := .agg #[.int .i64 code, .int .i64 n, .string ⟨#[]⟩, .slice p m cap]) ?_ rfl ⟨rfl, ?_⟩
  · rw [opres_cell1 rfl]
    go_simp
  · exact ((Below.refl _ w).alloc (Nat.le_refl _) _).alloc (by simp) _

set_option maxRecDepth 100000 in
theorem e_emptyHits_calls (code n : Int) (t : ByteArray) (p : Option Addr) (m cap : Nat) (w : World) :
    Calls Try.prog 70 #[.agg #[.int .i64 code, .int .i64 n, .string t, .slice p m cap]] w fun x w' => x = .returned (.agg #[.int .i64 code, .int .i64 n, .string t, .slice none 0 0]) ∧ Below w.heap.size w w' := by
  go_enter Try.func70, Try.ntmps70
  go_wp2
  refine bodyPost_ret (v := .agg #[.int .i64 code, .int .i64 n, .string t, .slice none 0 0]) ?_ rfl ⟨rfl, ?_⟩
  · rw [opres_cell1 rfl]
    go_simp
  · exact ((Below.refl _ w).alloc (Nat.le_refl _) _).alloc (by simp) _

set_option maxRecDepth 100000 in
theorem e_emptyN_calls (code n : Int) (t : ByteArray) (p : Option Addr) (m cap : Nat) (w : World) :
    Calls Try.prog 79 #[.agg #[.int .i64 code, .int .i64 n, .string t, .slice p m cap]] w fun x w' => x = .returned (.agg #[.int .i64 code, .int .i64 0, .string t, .slice p m cap]) ∧ Below w.heap.size w w' := by
  go_enter Try.func79, Try.ntmps79
  go_wp2
  refine bodyPost_ret (v := .agg #[.int .i64 code, .int .i64 0, .string t, .slice p m cap]) ?_ rfl ⟨rfl, ?_⟩
  · rw [opres_cell1 rfl]
    go_simp
  · exact ((Below.refl _ w).alloc (Nat.le_refl _) _).alloc (by simp) _

theorem whits_many (B r : Nat) (l : List UInt8) (p : Option Addr) (m cap : Nat) (w : World) (h : Wr w B r l 0) (hn : 65536 < m) :
    Calls Try.prog 91 #[.pointer (some ⟨r, 0, none⟩), .slice p m cap] w fun x w' => x = .returned (.tuple #[]) ∧ Wr w' B r l 43 ∧ Below B w w' ∧ Oth w w' r := by
  have C := Lib.hid (wrefuse_calls B r l 0 true 43 w h)
  have hd43 : decide (65536 < (m : Int)) = true := by simp; omega
  have hr1 : rf true 43 0 = 43 := by simp [rf]
  rw [hr1] at C
  clear h
  go_enter Try.func91, Try.ntmps91
  go_wp2_with fail
  refine C.out.mono ?_
  rintro x w1 ⟨rfl, h1, b1, o1⟩
  have c1 := h1.cells.1
  have H1 := Lib.hid h1
  clear h1
  go_wp2
  refine bodyPost_ret (results_none rfl _ _ _) rfl ?_
  exact ⟨rfl, H1.out, b1, o1⟩

/-- What an operation writes of a reply, and the refusal. -/
def bodyB (kd : Nat) (n : Int) (t : ByteArray) (z : List Hv) : List UInt8 :=
  if kd = 3 then vNum t.size ++ t.data.toList else if kd = 4 then (if 65536 < z.length then [] else vNum z.length ++ hitsB z) else if kd = 6 then vNum n else []
def bodyE (kd : Nat) (n : Int) (t : ByteArray) (z : List Hv) : Int :=
  if kd = 3 then rf (decide (65536 < (t.size : Int))) 36 0 else if kd = 4 then (if 65536 < z.length then 43 else hitsE z z.length 0) else if kd = 6 then rf (decide (n < 0)) 13 0 else 0

set_option maxRecDepth 100000 in
theorem t_silent_calls (B r : Nat) (l : List UInt8) (code n : Int) (t : ByteArray) (p : Option Addr) (z : List Hv) (cap : Nat) (w : World) (h : Wr w B r l 0) (hz : HR w B p z) (hlen : l.length + t.size + (hitsB z).length + 74 ≤ 140737488355328) :
    Calls Try.prog 51 #[.pointer (some ⟨r, 0, none⟩), .agg #[.int .i64 code, .int .i64 n, .string t, .slice p z.length cap]] w fun x w' => x = .returned (.tuple #[]) ∧ Wr w' B r (l ++ bodyB 1 n t z) (bodyE 1 n t z) ∧ Below B w w' ∧ Oth w w' r := by
  have hBw : B ≤ w.heap.size := Nat.le_trans h.le (Nat.le_of_lt h.lt)
  have HA := Lib.hid (h.alloc (.cells #[.int .i64 code, .int .i64 n, .string t, .slice p z.length cap] 33))
  have HBa := Lib.hid ((Below.refl B w).alloc hBw (.cells #[.int .i64 code, .int .i64 n, .string t, .slice p z.length cap] 33))
  have HOa := Lib.hid (Oth.below r ((Below.refl w.heap.size w).alloc (Nat.le_refl _) (.cells #[.int .i64 code, .int .i64 n, .string t, .slice p z.length cap] 33)))
  have HZ := Lib.hid (hz.below HBa.out)
  have e1 : l ++ bodyB 1 n t z = l := by simp [bodyB]
  have e2 : bodyE 1 n t z = 0 := rfl
  rw [e1, e2]
  clear h hz e1 e2
  go_enter Try.func51, Try.ntmps51
  go_wp2
  go_end0
  exact ⟨rfl, HA.out, HBa.out, HOa.out⟩

set_option maxRecDepth 100000 in
theorem t_operations_4_calls (B r : Nat) (l : List UInt8) (code n : Int) (t : ByteArray) (p : Option Addr) (z : List Hv) (cap : Nat) (w : World) (h : Wr w B r l 0) (hz : HR w B p z) (hlen : l.length + t.size + (hitsB z).length + 74 ≤ 140737488355328) :
    Calls Try.prog 65 #[.pointer (some ⟨r, 0, none⟩), .agg #[.int .i64 code, .int .i64 n, .string t, .slice p z.length cap]] w fun x w' => x = .returned (.tuple #[]) ∧ Wr w' B r (l ++ bodyB 3 n t z) (bodyE 3 n t z) ∧ Below B w w' ∧ Oth w w' r := by
  have hBw : B ≤ w.heap.size := Nat.le_trans h.le (Nat.le_of_lt h.lt)
  have HA := Lib.hid (h.alloc (.cells #[.int .i64 code, .int .i64 n, .string t, .slice p z.length cap] 33))
  have HBa := Lib.hid ((Below.refl B w).alloc hBw (.cells #[.int .i64 code, .int .i64 n, .string t, .slice p z.length cap] 33))
  have HOa := Lib.hid (Oth.below r ((Below.refl w.heap.size w).alloc (Nat.le_refl _) (.cells #[.int .i64 code, .int .i64 n, .string t, .slice p z.length cap] 33)))
  have HZ := Lib.hid (hz.below HBa.out)
  have e1 : l ++ bodyB 3 n t z = l ++ vNum t.size ++ t.data.toList := by simp [bodyB]
  have e2 : bodyE 3 n t z = rf (decide (65536 < (t.size : Int))) 36 0 := by simp [bodyE]
  rw [e1, e2]
  have D := Lib.hid (wtext_calls B r l 0 t _ HA.out (by omega))
  clear h hz e1 e2
  go_enter Try.func65, Try.ntmps65
  go_wp2_with fail
  refine D.out.mono ?_
  rintro x w1 ⟨rfl, h1, b1, o1⟩
  have H1 := Lib.hid h1
  have H2 := Lib.hid (HBa.out.trans b1)
  have H3 := Lib.hid (HOa.out.trans o1)
  clear h1 b1 o1
  go_wp2
  go_end0
  exact ⟨rfl, H1.out, H2.out, H3.out⟩

set_option maxRecDepth 100000 in
theorem t_tellHits_calls (B r : Nat) (l : List UInt8) (code n : Int) (t : ByteArray) (p : Option Addr) (z : List Hv) (cap : Nat) (w : World) (h : Wr w B r l 0) (hz : HR w B p z) (hlen : l.length + t.size + (hitsB z).length + 74 ≤ 140737488355328) :
    Calls Try.prog 68 #[.pointer (some ⟨r, 0, none⟩), .agg #[.int .i64 code, .int .i64 n, .string t, .slice p z.length cap]] w fun x w' => x = .returned (.tuple #[]) ∧ Wr w' B r (l ++ bodyB 4 n t z) (bodyE 4 n t z) ∧ Below B w w' ∧ Oth w w' r := by
  have hBw : B ≤ w.heap.size := Nat.le_trans h.le (Nat.le_of_lt h.lt)
  have HA := Lib.hid (h.alloc (.cells #[.int .i64 code, .int .i64 n, .string t, .slice p z.length cap] 33))
  have HBa := Lib.hid ((Below.refl B w).alloc hBw (.cells #[.int .i64 code, .int .i64 n, .string t, .slice p z.length cap] 33))
  have HOa := Lib.hid (Oth.below r ((Below.refl w.heap.size w).alloc (Nat.le_refl _) (.cells #[.int .i64 code, .int .i64 n, .string t, .slice p z.length cap] 33)))
  have HZ := Lib.hid (hz.below HBa.out)
  by_cases hn : 65536 < z.length
  · have e1 : l ++ bodyB 4 n t z = l := by simp [bodyB, hn]
    have e2 : bodyE 4 n t z = 43 := by simp [bodyE, hn]
    have D := Lib.hid (whits_many B r l p z.length cap _ HA.out hn)
    rw [e1, e2]
    clear h hz e1 e2 hn
    go_enter Try.func68, Try.ntmps68
    go_wp2_with fail
    refine D.out.mono ?_
    rintro x w1 ⟨rfl, h1, b1, o1⟩
    have H1 := Lib.hid h1
    have H2 := Lib.hid (HBa.out.trans b1)
    have H3 := Lib.hid (HOa.out.trans o1)
    clear h1 b1 o1
    go_wp2
    go_end0
    exact ⟨rfl, H1.out, H2.out, H3.out⟩
  · have e1 : l ++ bodyB 4 n t z = l ++ vNum z.length ++ hitsB z := by simp [bodyB, hn]
    have e2 : bodyE 4 n t z = hitsE z z.length 0 := by simp [bodyE, hn]
    have D := Lib.hid (whits_calls B r l p cap z _ HA.out HZ.out (by omega) (by omega))
    rw [e1, e2]
    clear h hz e1 e2 hn
    go_enter Try.func68, Try.ntmps68
    go_wp2_with fail
    refine D.out.mono ?_
    rintro x w1 ⟨rfl, h1, b1, o1⟩
    have H1 := Lib.hid h1
    have H2 := Lib.hid (HBa.out.trans b1)
    have H3 := Lib.hid (HOa.out.trans o1)
    clear h1 b1 o1
    go_wp2
    go_end0
    exact ⟨rfl, H1.out, H2.out, H3.out⟩

set_option maxRecDepth 100000 in
theorem t_tellN_calls (B r : Nat) (l : List UInt8) (code n : Int) (t : ByteArray) (p : Option Addr) (z : List Hv) (cap : Nat) (w : World) (h : Wr w B r l 0) (hz : HR w B p z) (hlen : l.length + t.size + (hitsB z).length + 74 ≤ 140737488355328) :
    Calls Try.prog 77 #[.pointer (some ⟨r, 0, none⟩), .agg #[.int .i64 code, .int .i64 n, .string t, .slice p z.length cap]] w fun x w' => x = .returned (.tuple #[]) ∧ Wr w' B r (l ++ bodyB 6 n t z) (bodyE 6 n t z) ∧ Below B w w' ∧ Oth w w' r := by
  have hBw : B ≤ w.heap.size := Nat.le_trans h.le (Nat.le_of_lt h.lt)
  have HA := Lib.hid (h.alloc (.cells #[.int .i64 code, .int .i64 n, .string t, .slice p z.length cap] 33))
  have HBa := Lib.hid ((Below.refl B w).alloc hBw (.cells #[.int .i64 code, .int .i64 n, .string t, .slice p z.length cap] 33))
  have HOa := Lib.hid (Oth.below r ((Below.refl w.heap.size w).alloc (Nat.le_refl _) (.cells #[.int .i64 code, .int .i64 n, .string t, .slice p z.length cap] 33)))
  have HZ := Lib.hid (hz.below HBa.out)
  have e1 : l ++ bodyB 6 n t z = l ++ vNum n := by simp [bodyB]
  have e2 : bodyE 6 n t z = rf (decide (n < 0)) 13 0 := by simp [bodyE]
  rw [e1, e2]
  have D := Lib.hid (wnumber_calls B r l 0 n _ HA.out (by omega))
  clear h hz e1 e2
  go_enter Try.func77, Try.ntmps77
  go_wp2_with fail
  refine D.out.mono ?_
  rintro x w1 ⟨rfl, h1, b1, o1⟩
  have H1 := Lib.hid h1
  have H2 := Lib.hid (HBa.out.trans b1)
  have H3 := Lib.hid (HOa.out.trans o1)
  clear h1 b1 o1
  go_wp2
  go_end0
  exact ⟨rfl, H1.out, H2.out, H3.out⟩

end Go.Proofs.Ytabhjkaheghbhaa

/-
  WALKS: the program's Ask. (Printed by askwgen.py.)
-/
import Derived.Test.YtabhjkaheghbhaaWr2
import Derived.Test.YtabhjkaheghbhaaAskm
import Derived.Laws.StructEq
import Derived.Deep.DeepCutAuto
namespace Go.Proofs.Ytabhjkaheghbhaa
open Go.RowKit
set_option linter.unusedVariables false

/-- A field that an operation does not name stands in a request. -/
def askF (b1 b2 b3 b4 : Bool) (id : Int) (c : ByteArray) (k rr : Int) : Bool := (!b1 && id != 0) || (!b2 && decide (c ≠ ⟨#[]⟩)) || (!b3 && k != 0) || (!b4 && rr != 0)
/-- The first refusal of a request's numbers and texts. -/
def lowE (id : Int) (c : ByteArray) (k rr : Int) : Int := if id < 0 ∨ k < 0 ∨ rr < 0 then 13 else if 65536 < c.size then 36 else 0
def numIf (b : Bool) (n : Int) : List UInt8 := if b then vNum n else []
def textIf (b : Bool) (c : ByteArray) : List UInt8 := if b then vNum c.size ++ c.data.toList else []
/-- A request as bytes. -/
def askB (b1 b2 b3 b4 : Bool) (op id : Int) (c : ByteArray) (k rr : Int) : List UInt8 :=
  [81, UInt8.ofNat op.toNat] ++ numIf b1 id ++ textIf b2 c ++ numIf b3 k ++ numIf b4 rr
def nm' (op : Int) : Bool × Bool × Bool × Bool := (op == 1 || op == 2 || op == 3, op == 1 || op == 4 || op == 5, op == 4, op == 5)
/-- What Ask answers. -/
def askOut (op id : Int) (c : ByteArray) (k rr : Int) : List UInt8 × Int :=
  if ¬ (1 ≤ op ∧ op ≤ 9) then ([], 35)
  else if askF (nm' op).1 (nm' op).2.1 (nm' op).2.2.1 (nm' op).2.2.2 id c k rr then ([], 32)
  else if lowE id c k rr ≠ 0 then ([], lowE id c k rr)
  else (askB (nm' op).1 (nm' op).2.1 (nm' op).2.2.1 (nm' op).2.2.2 op id c k rr, 0)


theorem rq_box (w : World) (op id : Int) (c : ByteArray) (k rr : Int) : Rq (w.alloc (.cells #[.int .i64 op, .int .i64 id, .string c, .int .i64 k, .int .i64 rr] 24)) w.heap.size op id c k rr := heap_alloc_last w _

set_option maxRecDepth 100000 in
theorem bareNone_calls (op id : Int) (c : ByteArray) (k rr : Int) (w : World) :
    Calls Try.prog 50 #[.agg #[.int .i64 op, .int .i64 id, .string c, .int .i64 k, .int .i64 rr]] w fun x w' => x = .returned (.agg #[.int .i64 op, .int .i64 id, .string c, .int .i64 k, .int .i64 rr]) ∧ Below w.heap.size w w' := by
  go_enter Try.func50, Try.ntmps50
  go_wp2
  refine bodyPost_ret (v := .agg #[.int .i64 op, .int .i64 id, .string c, .int .i64 k, .int .i64 rr]) ?_ rfl ⟨rfl, ?_⟩
  · rw [opres_cell1 rfl]
    go_simp
  · exact ((Below.refl _ w).alloc (Nat.le_refl _) _).alloc (by simp) _

set_option maxRecDepth 100000 in
theorem bareID_calls (op id : Int) (c : ByteArray) (k rr : Int) (w : World) :
    Calls Try.prog 64 #[.agg #[.int .i64 op, .int .i64 id, .string c, .int .i64 k, .int .i64 rr]] w fun x w' => x = .returned (.agg #[.int .i64 op, .int .i64 0, .string c, .int .i64 k, .int .i64 rr]) ∧ Below w.heap.size w w' := by
  go_enter Try.func64, Try.ntmps64
  go_wp2
  refine bodyPost_ret (v := .agg #[.int .i64 op, .int .i64 0, .string c, .int .i64 k, .int .i64 rr]) ?_ rfl ⟨rfl, ?_⟩
  · rw [opres_cell1 rfl]
    go_simp
  · exact ((Below.refl _ w).alloc (Nat.le_refl _) _).alloc (by simp) _

set_option maxRecDepth 100000 in
theorem operations_3_calls (op id : Int) (c : ByteArray) (k rr : Int) (w : World) :
    Calls Try.prog 61 #[.agg #[.int .i64 op, .int .i64 id, .string c, .int .i64 k, .int .i64 rr]] w fun x w' => x = .returned (.agg #[.int .i64 op, .int .i64 0, .string ⟨#[]⟩, .int .i64 k, .int .i64 rr]) ∧ Below w.heap.size w w' := by
  go_enter Try.func61, Try.ntmps61
  go_wp2
  refine bodyPost_ret (v := .agg #[.int .i64 op, .int .i64 0, .string ⟨#[]⟩, .int .i64 k, .int .i64 rr]) ?_ rfl ⟨rfl, ?_⟩
  · rw [opres_cell1 rfl]
    go_simp
  · exact ((Below.refl _ w).alloc (Nat.le_refl _) _).alloc (by simp) _

set_option maxRecDepth 100000 in
theorem operations_9_calls (op id : Int) (c : ByteArray) (k rr : Int) (w : World) :
    Calls Try.prog 73 #[.agg #[.int .i64 op, .int .i64 id, .string c, .int .i64 k, .int .i64 rr]] w fun x w' => x = .returned (.agg #[.int .i64 op, .int .i64 id, .string ⟨#[]⟩, .int .i64 0, .int .i64 rr]) ∧ Below w.heap.size w w' := by
  go_enter Try.func73, Try.ntmps73
  go_wp2
  refine bodyPost_ret (v := .agg #[.int .i64 op, .int .i64 id, .string ⟨#[]⟩, .int .i64 0, .int .i64 rr]) ?_ rfl ⟨rfl, ?_⟩
  · rw [opres_cell1 rfl]
    go_simp
  · exact ((Below.refl _ w).alloc (Nat.le_refl _) _).alloc (by simp) _

set_option maxRecDepth 100000 in
theorem operations_12_calls (op id : Int) (c : ByteArray) (k rr : Int) (w : World) :
    Calls Try.prog 76 #[.agg #[.int .i64 op, .int .i64 id, .string c, .int .i64 k, .int .i64 rr]] w fun x w' => x = .returned (.agg #[.int .i64 op, .int .i64 id, .string ⟨#[]⟩, .int .i64 k, .int .i64 0]) ∧ Below w.heap.size w w' := by
  go_enter Try.func76, Try.ntmps76
  go_wp2
  refine bodyPost_ret (v := .agg #[.int .i64 op, .int .i64 id, .string ⟨#[]⟩, .int .i64 k, .int .i64 0]) ?_ rfl ⟨rfl, ?_⟩
  · rw [opres_cell1 rfl]
    go_simp
  · exact ((Below.refl _ w).alloc (Nat.le_refl _) _).alloc (by simp) _

set_option maxRecDepth 100000 in
theorem nothing_calls (B r : Nat) (l : List UInt8) (bad : Int) (op id : Int) (c : ByteArray) (k rr : Int) (h0 : 0 ≤ id) (h1 : 0 ≤ k) (h2 : 0 ≤ rr) (h3 : c.size ≤ 65536) (w : World) (h : Wr w B r l bad) (hlen : l.length + 30 + c.size ≤ 140737488355328) :
    Calls Try.prog 48 #[.pointer (some ⟨r, 0, none⟩), .agg #[.int .i64 op, .int .i64 id, .string c, .int .i64 k, .int .i64 rr]] w fun x w' => x = .returned (.tuple #[]) ∧ Wr w' B r (l) bad ∧ Below B w w' ∧ Oth w w' r := by

  have HA := Lib.hid (h.alloc (.cells #[.int .i64 op, .int .i64 id, .string c, .int .i64 k, .int .i64 rr] 24))
  have HBq := Lib.hid ((Below.refl B w).alloc (Nat.le_trans h.le (Nat.le_of_lt h.lt)) (.cells #[.int .i64 op, .int .i64 id, .string c, .int .i64 k, .int .i64 rr] 24))
  have HOq := Lib.hid (Oth.below r ((Below.refl w.heap.size w).alloc (Nat.le_refl _) (.cells #[.int .i64 op, .int .i64 id, .string c, .int .i64 k, .int .i64 rr] 24)))
  have HQ := Lib.hid (rq_box w op id c k rr)
  have hqr : w.heap.size ≠ r := by have := h.lt; omega
  clear h hlen
  go_enter Try.func48, Try.ntmps48
  go_wp2
  go_end0
  exact ⟨rfl, HA.out, HBq.out, HOq.out⟩

set_option maxRecDepth 100000 in
theorem askID_calls (B r : Nat) (l : List UInt8) (bad : Int) (op id : Int) (c : ByteArray) (k rr : Int) (h0 : 0 ≤ id) (h1 : 0 ≤ k) (h2 : 0 ≤ rr) (h3 : c.size ≤ 65536) (w : World) (h : Wr w B r l bad) (hlen : l.length + 30 + c.size ≤ 140737488355328) :
    Calls Try.prog 62 #[.pointer (some ⟨r, 0, none⟩), .agg #[.int .i64 op, .int .i64 id, .string c, .int .i64 k, .int .i64 rr]] w fun x w' => x = .returned (.tuple #[]) ∧ Wr w' B r (l ++ vNum id) bad ∧ Below B w w' ∧ Oth w w' r := by
  have hl1 := vNum_len id
  have hd1 : decide (id < 0) = false := by simpa using h0
  have hrf : ∀ E, rf false E bad = bad := fun E => by simp [rf]
  have D1 := Lib.hid (fun W h => wnumber_calls B r (l) bad id W h (by (try simp only [List.length_append]); omega))
  rw [hd1, hrf] at D1
  have HA := Lib.hid (h.alloc (.cells #[.int .i64 op, .int .i64 id, .string c, .int .i64 k, .int .i64 rr] 24))
  have HBq := Lib.hid ((Below.refl B w).alloc (Nat.le_trans h.le (Nat.le_of_lt h.lt)) (.cells #[.int .i64 op, .int .i64 id, .string c, .int .i64 k, .int .i64 rr] 24))
  have HOq := Lib.hid (Oth.below r ((Below.refl w.heap.size w).alloc (Nat.le_refl _) (.cells #[.int .i64 op, .int .i64 id, .string c, .int .i64 k, .int .i64 rr] 24)))
  have HQ := Lib.hid (rq_box w op id c k rr)
  have hqr : w.heap.size ≠ r := by have := h.lt; omega
  clear h hlen
  go_enter Try.func62, Try.ntmps62
  go_wp2_with fail
  refine (D1.out _ HA.out).mono ?_
  rintro x w1 ⟨rfl, k1, k2, k3⟩
  have HA1 := Lib.hid k1
  have HBq1 := Lib.hid (HBq.out.trans k2)
  have HOq1 := Lib.hid (HOq.out.trans k3)
  have HQ1 := Lib.hid (HQ.out.of (k3 _ _ _ _ hqr (by decide) HQ.out))
  clear k1 k2 k3
  go_wp2
  go_end0
  exact ⟨rfl, HA1.out, HBq1.out, HOq1.out⟩

set_option maxRecDepth 100000 in
theorem operations_1_calls (B r : Nat) (l : List UInt8) (bad : Int) (op id : Int) (c : ByteArray) (k rr : Int) (h0 : 0 ≤ id) (h1 : 0 ≤ k) (h2 : 0 ≤ rr) (h3 : c.size ≤ 65536) (w : World) (h : Wr w B r l bad) (hlen : l.length + 30 + c.size ≤ 140737488355328) :
    Calls Try.prog 54 #[.pointer (some ⟨r, 0, none⟩), .agg #[.int .i64 op, .int .i64 id, .string c, .int .i64 k, .int .i64 rr]] w fun x w' => x = .returned (.tuple #[]) ∧ Wr w' B r (l ++ vNum id ++ vNum c.size ++ c.data.toList) bad ∧ Below B w w' ∧ Oth w w' r := by
  have hl1 := vNum_len id
  have hd1 : decide (id < 0) = false := by simpa using h0
  have hl2 := vNum_len c.size
  have hd2 : decide (65536 < (c.size : Int)) = false := by simp; omega
  have hcs : c.data.toList.length = c.size := rfl
  have hrf : ∀ E, rf false E bad = bad := fun E => by simp [rf]
  have D1 := Lib.hid (fun W h => wnumber_calls B r (l) bad id W h (by (try simp only [List.length_append]); omega))
  have D2 := Lib.hid (fun W h => wtext_calls B r (l ++ vNum id) bad c W h (by (try simp only [List.length_append]); omega))
  rw [hd1, hrf] at D1
  rw [hd2, hrf] at D2
  have HA := Lib.hid (h.alloc (.cells #[.int .i64 op, .int .i64 id, .string c, .int .i64 k, .int .i64 rr] 24))
  have HBq := Lib.hid ((Below.refl B w).alloc (Nat.le_trans h.le (Nat.le_of_lt h.lt)) (.cells #[.int .i64 op, .int .i64 id, .string c, .int .i64 k, .int .i64 rr] 24))
  have HOq := Lib.hid (Oth.below r ((Below.refl w.heap.size w).alloc (Nat.le_refl _) (.cells #[.int .i64 op, .int .i64 id, .string c, .int .i64 k, .int .i64 rr] 24)))
  have HQ := Lib.hid (rq_box w op id c k rr)
  have hqr : w.heap.size ≠ r := by have := h.lt; omega
  clear h hlen
  go_enter Try.func54, Try.ntmps54
  go_wp2_with fail
  refine (D1.out _ HA.out).mono ?_
  rintro x w1 ⟨rfl, k1, k2, k3⟩
  have HA1 := Lib.hid k1
  have HBq1 := Lib.hid (HBq.out.trans k2)
  have HOq1 := Lib.hid (HOq.out.trans k3)
  have HQ1 := Lib.hid (HQ.out.of (k3 _ _ _ _ hqr (by decide) HQ.out))
  obtain ⟨q0, q1, q2, q3, q4, _⟩ := HQ1.out.cells
  clear k1 k2 k3
  go_wp2_with fail
  refine (D2.out _ HA1.out).mono ?_
  rintro x w2 ⟨rfl, k1, k2, k3⟩
  have HA2 := Lib.hid k1
  have HBq2 := Lib.hid (HBq1.out.trans k2)
  have HOq2 := Lib.hid (HOq1.out.trans k3)
  have HQ2 := Lib.hid (HQ1.out.of (k3 _ _ _ _ hqr (by decide) HQ1.out))
  clear k1 k2 k3
  go_wp2
  go_end0
  exact ⟨rfl, HA2.out, HBq2.out, HOq2.out⟩

set_option maxRecDepth 100000 in
theorem operations_7_calls (B r : Nat) (l : List UInt8) (bad : Int) (op id : Int) (c : ByteArray) (k rr : Int) (h0 : 0 ≤ id) (h1 : 0 ≤ k) (h2 : 0 ≤ rr) (h3 : c.size ≤ 65536) (w : World) (h : Wr w B r l bad) (hlen : l.length + 30 + c.size ≤ 140737488355328) :
    Calls Try.prog 71 #[.pointer (some ⟨r, 0, none⟩), .agg #[.int .i64 op, .int .i64 id, .string c, .int .i64 k, .int .i64 rr]] w fun x w' => x = .returned (.tuple #[]) ∧ Wr w' B r (l ++ vNum c.size ++ c.data.toList ++ vNum k) bad ∧ Below B w w' ∧ Oth w w' r := by
  have hl3 := vNum_len k
  have hd3 : decide (k < 0) = false := by simpa using h1
  have hl2 := vNum_len c.size
  have hd2 : decide (65536 < (c.size : Int)) = false := by simp; omega
  have hcs : c.data.toList.length = c.size := rfl
  have hrf : ∀ E, rf false E bad = bad := fun E => by simp [rf]
  have D1 := Lib.hid (fun W h => wtext_calls B r (l) bad c W h (by (try simp only [List.length_append]); omega))
  have D2 := Lib.hid (fun W h => wnumber_calls B r (l ++ vNum c.size ++ c.data.toList) bad k W h (by (try simp only [List.length_append]); omega))
  rw [hd2, hrf] at D1
  rw [hd3, hrf] at D2
  have HA := Lib.hid (h.alloc (.cells #[.int .i64 op, .int .i64 id, .string c, .int .i64 k, .int .i64 rr] 24))
  have HBq := Lib.hid ((Below.refl B w).alloc (Nat.le_trans h.le (Nat.le_of_lt h.lt)) (.cells #[.int .i64 op, .int .i64 id, .string c, .int .i64 k, .int .i64 rr] 24))
  have HOq := Lib.hid (Oth.below r ((Below.refl w.heap.size w).alloc (Nat.le_refl _) (.cells #[.int .i64 op, .int .i64 id, .string c, .int .i64 k, .int .i64 rr] 24)))
  have HQ := Lib.hid (rq_box w op id c k rr)
  have hqr : w.heap.size ≠ r := by have := h.lt; omega
  clear h hlen
  go_enter Try.func71, Try.ntmps71
  go_wp2_with fail
  refine (D1.out _ HA.out).mono ?_
  rintro x w1 ⟨rfl, k1, k2, k3⟩
  have HA1 := Lib.hid k1
  have HBq1 := Lib.hid (HBq.out.trans k2)
  have HOq1 := Lib.hid (HOq.out.trans k3)
  have HQ1 := Lib.hid (HQ.out.of (k3 _ _ _ _ hqr (by decide) HQ.out))
  obtain ⟨q0, q1, q2, q3, q4, _⟩ := HQ1.out.cells
  clear k1 k2 k3
  go_wp2_with fail
  refine (D2.out _ HA1.out).mono ?_
  rintro x w2 ⟨rfl, k1, k2, k3⟩
  have HA2 := Lib.hid k1
  have HBq2 := Lib.hid (HBq1.out.trans k2)
  have HOq2 := Lib.hid (HOq1.out.trans k3)
  have HQ2 := Lib.hid (HQ1.out.of (k3 _ _ _ _ hqr (by decide) HQ1.out))
  clear k1 k2 k3
  go_wp2
  go_end0
  exact ⟨rfl, HA2.out, HBq2.out, HOq2.out⟩

set_option maxRecDepth 100000 in
theorem operations_10_calls (B r : Nat) (l : List UInt8) (bad : Int) (op id : Int) (c : ByteArray) (k rr : Int) (h0 : 0 ≤ id) (h1 : 0 ≤ k) (h2 : 0 ≤ rr) (h3 : c.size ≤ 65536) (w : World) (h : Wr w B r l bad) (hlen : l.length + 30 + c.size ≤ 140737488355328) :
    Calls Try.prog 74 #[.pointer (some ⟨r, 0, none⟩), .agg #[.int .i64 op, .int .i64 id, .string c, .int .i64 k, .int .i64 rr]] w fun x w' => x = .returned (.tuple #[]) ∧ Wr w' B r (l ++ vNum c.size ++ c.data.toList ++ vNum rr) bad ∧ Below B w w' ∧ Oth w w' r := by
  have hl4 := vNum_len rr
  have hd4 : decide (rr < 0) = false := by simpa using h2
  have hl2 := vNum_len c.size
  have hd2 : decide (65536 < (c.size : Int)) = false := by simp; omega
  have hcs : c.data.toList.length = c.size := rfl
  have hrf : ∀ E, rf false E bad = bad := fun E => by simp [rf]
  have D1 := Lib.hid (fun W h => wtext_calls B r (l) bad c W h (by (try simp only [List.length_append]); omega))
  have D2 := Lib.hid (fun W h => wnumber_calls B r (l ++ vNum c.size ++ c.data.toList) bad rr W h (by (try simp only [List.length_append]); omega))
  rw [hd2, hrf] at D1
  rw [hd4, hrf] at D2
  have HA := Lib.hid (h.alloc (.cells #[.int .i64 op, .int .i64 id, .string c, .int .i64 k, .int .i64 rr] 24))
  have HBq := Lib.hid ((Below.refl B w).alloc (Nat.le_trans h.le (Nat.le_of_lt h.lt)) (.cells #[.int .i64 op, .int .i64 id, .string c, .int .i64 k, .int .i64 rr] 24))
  have HOq := Lib.hid (Oth.below r ((Below.refl w.heap.size w).alloc (Nat.le_refl _) (.cells #[.int .i64 op, .int .i64 id, .string c, .int .i64 k, .int .i64 rr] 24)))
  have HQ := Lib.hid (rq_box w op id c k rr)
  have hqr : w.heap.size ≠ r := by have := h.lt; omega
  clear h hlen
  go_enter Try.func74, Try.ntmps74
  go_wp2_with fail
  refine (D1.out _ HA.out).mono ?_
  rintro x w1 ⟨rfl, k1, k2, k3⟩
  have HA1 := Lib.hid k1
  have HBq1 := Lib.hid (HBq.out.trans k2)
  have HOq1 := Lib.hid (HOq.out.trans k3)
  have HQ1 := Lib.hid (HQ.out.of (k3 _ _ _ _ hqr (by decide) HQ.out))
  obtain ⟨q0, q1, q2, q3, q4, _⟩ := HQ1.out.cells
  clear k1 k2 k3
  go_wp2_with fail
  refine (D2.out _ HA1.out).mono ?_
  rintro x w2 ⟨rfl, k1, k2, k3⟩
  have HA2 := Lib.hid k1
  have HBq2 := Lib.hid (HBq1.out.trans k2)
  have HOq2 := Lib.hid (HOq1.out.trans k3)
  have HQ2 := Lib.hid (HQ1.out.of (k3 _ _ _ _ hqr (by decide) HQ1.out))
  clear k1 k2 k3
  go_wp2
  go_end0
  exact ⟨rfl, HA2.out, HBq2.out, HOq2.out⟩

theorem low_calls (op id : Int) (c : ByteArray) (k rr : Int) (w : World) :
    Calls Try.prog 44 #[.agg #[.int .i64 op, .int .i64 id, .string c, .int .i64 k, .int .i64 rr]] w fun x w' => x = .returned (.int .i64 (lowE id c k rr)) ∧ Below w.heap.size w w' := by
  have HB := Lib.hid ((Below.refl w.heap.size w).alloc (Nat.le_refl _) (.cells #[.int .i64 op, .int .i64 id, .string c, .int .i64 k, .int .i64 rr] 24))
  unfold lowE
  by_cases h1 : id < 0
  · rw [if_pos (Or.inl h1)]
    have d1 : decide (id < 0) = true := by simpa using h1
    go_enter Try.func44, Try.ntmps44
    go_wp2
    go_ret
    exact ⟨rfl, HB.out⟩
  · have d1 : decide (id < 0) = false := by simpa using h1
    by_cases h2 : k < 0
    · rw [if_pos (Or.inr (Or.inl h2))]
      have d2 : decide (k < 0) = true := by simpa using h2
      go_enter Try.func44, Try.ntmps44
      go_wp2
      go_ret
      exact ⟨rfl, HB.out⟩
    · have d2 : decide (k < 0) = false := by simpa using h2
      by_cases h3 : rr < 0
      · rw [if_pos (Or.inr (Or.inr h3))]
        have d3 : decide (rr < 0) = true := by simpa using h3
        go_enter Try.func44, Try.ntmps44
        go_wp2
        go_ret
        exact ⟨rfl, HB.out⟩
      · rw [if_neg (fun h => by rcases h with h | h | h <;> contradiction)]
        have d3 : decide (rr < 0) = false := by simpa using h3
        by_cases h4 : 65536 < c.size
        · rw [if_pos h4]
          have d4 : decide (65536 < (c.size : Int)) = true := by simp; omega
          go_enter Try.func44, Try.ntmps44
          go_wp2
          go_ret
          exact ⟨rfl, HB.out⟩
        · rw [if_neg h4]
          have d4 : decide (65536 < (c.size : Int)) = false := by simp; omega
          go_enter Try.func44, Try.ntmps44
          go_wp2
          go_ret
          exact ⟨rfl, HB.out⟩

/-- What Ask answers, of an operation that names these. -/
def askO (b1 b2 b3 b4 : Bool) (op id : Int) (c : ByteArray) (k rr : Int) : List UInt8 × Int :=
  if askF b1 b2 b3 b4 id c k rr then ([], 32) else if lowE id c k rr ≠ 0 then ([], lowE id c k rr) else (askB b1 b2 b3 b4 op id c k rr, 0)
theorem lowE_zero {id : Int} {c : ByteArray} {k rr : Int} (h : lowE id c k rr = 0) : 0 ≤ id ∧ 0 ≤ k ∧ 0 ≤ rr ∧ c.size ≤ 65536 := by
  unfold lowE at h
  split at h
  · cases h
  · split at h
    · cases h
    · omega
theorem neq_rq (op id : Int) (c : ByteArray) (k rr id' : Int) (c' : ByteArray) (k' rr' : Int) (b : Bool) (hb : b = ((id != id') || decide (c ≠ c') || (k != k') || (rr != rr'))) (W : World) :
    (binOp .neq 24 (.agg #[.int .i64 op, .int .i64 id, .string c, .int .i64 k, .int .i64 rr]) (.agg #[.int .i64 op, .int .i64 id', .string c', .int .i64 k', .int .i64 rr'])).run Try.prog W = .ok (.bool b) W := by
  have hFo : Try.prog.underlying 24 = some (.struct (Try.prog.fieldsOf 24)) := by kernel_rfl
  have hSt : Try.prog.stoodInHeld 24 = false := by kernel_rfl
  rw [run_neq_struct, run_equalIn_agg W _ _ _ _ hFo hSt]
  simp only [Program.fieldsOf, Try.underlying24]
  subst hb
  by_cases e1 : id = id'
  · subst e1
    by_cases e2 : c = c'
    · subst e2
      by_cases e3 : k = k'
      · subst e3
        by_cases e4 : rr = rr'
        · subst e4
          simp [Op.eqFields, part, run_equalIn_int, run_equalIn_string, Try.underlying3, Try.underlying9]
        · simp [Op.eqFields, part, run_equalIn_int, run_equalIn_string, Try.underlying3, Try.underlying9, e4]
      · simp [Op.eqFields, part, run_equalIn_int, run_equalIn_string, Try.underlying3, Try.underlying9, e3]
    · have e2' : ¬ c.toList = c'.toList := fun h => e2 (ByteArray.ext (Array.toList_inj.1 (by rw [ByteArray.toList_eq, ByteArray.toList_eq] at h; exact h)))
      have e2d : decide (c ≠ c') = true := by simpa using e2
      rw [e2d]
      simp [Op.eqFields, part, run_equalIn_int, run_equalIn_string, Try.underlying3, Try.underlying9, e2']
  · simp [Op.eqFields, part, run_equalIn_int, run_equalIn_string, Try.underlying3, Try.underlying9, e1]

end Go.Proofs.Ytabhjkaheghbhaa

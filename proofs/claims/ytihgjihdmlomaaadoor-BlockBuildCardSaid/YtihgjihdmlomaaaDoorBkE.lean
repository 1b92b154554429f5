/-
  SORTED FILES: entries and heads as bytes, by the document. (Printed by wip/tools/bkgen.py.)
-/
import Derived.Test.YtihgjihdmlomaaaDoorBkD
namespace Go.Proofs.YtihgjihdmlomaaaDoor
open Go.RowKit
set_option linter.unusedVariables false

/-- The text of a head. -/
def headTB (h : Hd) (n : Int) : List UInt8 := vNum h.w ++ vNum h.t ++ vNum h.b ++ vNum h.lo ++ vNum h.hi ++ vNum n
theorem headTB_len (h : Hd) (n : Int) : (headTB h n).length ≤ 60 := by
  have := vNum_len h.w
  have := vNum_len h.t
  have := vNum_len h.b
  have := vNum_len h.lo
  have := vNum_len h.hi
  have := vNum_len n
  simp [headTB]
  omega

theorem cells5 {W : World} {b : Nat} {v0 v1 v2 v3 v4 : Value} {t : TypeId} {fr : Nat × Nat} (h : W.heap[b]? = some (.cells #[v0, v1, v2, v3, v4] t fr)) : W.cell? ⟨b, 0, none⟩ = some v0 ∧ W.cell? ⟨b, 1, none⟩ = some v1 ∧ W.cell? ⟨b, 2, none⟩ = some v2 ∧ W.cell? ⟨b, 3, none⟩ = some v3 ∧ W.cell? ⟨b, 4, none⟩ = some v4 :=
  ⟨by rw [cell_of_row _ _ 0 _ _ _ h]; rfl, by rw [cell_of_row _ _ 1 _ _ _ h]; rfl, by rw [cell_of_row _ _ 2 _ _ _ h]; rfl, by rw [cell_of_row _ _ 3 _ _ _ h]; rfl, by rw [cell_of_row _ _ 4 _ _ _ h]; rfl⟩

theorem cells6 {W : World} {b : Nat} {v0 v1 v2 v3 v4 v5 : Value} {t : TypeId} {fr : Nat × Nat} (h : W.heap[b]? = some (.cells #[v0, v1, v2, v3, v4, v5] t fr)) : W.cell? ⟨b, 0, none⟩ = some v0 ∧ W.cell? ⟨b, 1, none⟩ = some v1 ∧ W.cell? ⟨b, 2, none⟩ = some v2 ∧ W.cell? ⟨b, 3, none⟩ = some v3 ∧ W.cell? ⟨b, 4, none⟩ = some v4 ∧ W.cell? ⟨b, 5, none⟩ = some v5 :=
  ⟨by rw [cell_of_row _ _ 0 _ _ _ h]; rfl, by rw [cell_of_row _ _ 1 _ _ _ h]; rfl, by rw [cell_of_row _ _ 2 _ _ _ h]; rfl, by rw [cell_of_row _ _ 3 _ _ _ h]; rfl, by rw [cell_of_row _ _ 4 _ _ _ h]; rfl, by rw [cell_of_row _ _ 5 _ _ _ h]; rfl⟩


set_option maxRecDepth 100000 in
set_option maxHeartbeats 4000000 in
theorem bytes_false (v : Int) (c : ByteArray) (i s : Int) (h0 : 0 ≤ v) (h1 : v < 4294967296) (hs : c.size ≤ 140737488351232) (w : World) : Calls Tryd.prog 36 #[.agg #[.int .i64 v, .string c, .int .i64 i, .int .i64 s, .bool false]] w fun x w' => x = .returned (.string ⟨(writtenB ⟨v, c, i, s, false⟩).toArray⟩) ∧ Below w.heap.size w w' := by
  have h2 := vNum_len i
  have h3 := vNum_len s
  have h4 := fourB_len v
  obtain ⟨F, hFa, _, hFb⟩ := name_s (fourB v)
  obtain ⟨I, hIa, _, hIb⟩ := name_s (vNum i)
  obtain ⟨S, hSa, _, hSb⟩ := name_s (vNum s)
  have hD : (⟨#[0]⟩ : ByteArray).size = 1 := rfl
  have hP : (((F ++ c) ++ I) ++ S) ++ ⟨#[0]⟩ = ⟨(writtenB ⟨v, c, i, s, false⟩).toArray⟩ := by
    have hd : (⟨#[0]⟩ : ByteArray) = ⟨(deadB false).toArray⟩ := rfl
    unfold writtenB placedB
    rw [← str_app, ← str_app, ← str_app, ← str_app, hFa, hIa, hSa, hd]
  have HP := Lib.hid hP
  clear hP
  generalize (⟨(writtenB ⟨v, c, i, s, false⟩).toArray⟩ : ByteArray) = R at HP ⊢
  obtain ⟨w1, hw1⟩ : ∃ w1, w.alloc (.cells #[.int .i64 v, .string c, .int .i64 i, .int .i64 s, .bool false] 33) = w1 := ⟨_, rfl⟩
  have hz : w1.heap[w.heap.size]? = some (.cells #[.int .i64 v, .string c, .int .i64 i, .int .i64 s, .bool false] 33 (0, 0)) := by rw [← hw1]; exact World.alloc_heap_new w _
  have hB : Below w.heap.size w w1 := by rw [← hw1]; exact (Below.refl _ w).alloc (Nat.le_refl _) _
  have HB := Lib.hid hB
  have HW := Lib.hid hw1
  have HF : Hid (∀ W, Below w1.heap.size w1 W → Calls Tryd.prog 40 #[.int .i64 v] W (fun e W' => e = .returned (.string F) ∧ Below w1.heap.size w1 W')) := Lib.hid (fun W hW => by rw [← hFa]; exact (four_calls v h0 h1 W).mono (fun e W' ⟨k1, k2⟩ => ⟨k1, hW.trans (k2.mono hW.size)⟩))
  have HI : Hid (∀ W, Below w1.heap.size w1 W → Calls Tryd.prog 41 #[.int .i64 i] W (fun e W' => e = .returned (.string I) ∧ Below w1.heap.size w1 W')) := Lib.hid (fun W hW => by rw [← hIa]; exact (num6_calls i W).mono (fun e W' ⟨k1, k2⟩ => ⟨k1, hW.trans (k2.mono hW.size)⟩))
  have HS : Hid (∀ W, Below w1.heap.size w1 W → Calls Tryd.prog 41 #[.int .i64 s] W (fun e W' => e = .returned (.string S) ∧ Below w1.heap.size w1 W')) := Lib.hid (fun W hW => by rw [← hSa]; exact (num6_calls s W).mono (fun e W' ⟨k1, k2⟩ => ⟨k1, hW.trans (k2.mono hW.size)⟩))
  have HK : Hid (∀ W, Below w1.heap.size w1 W → W.cell? ⟨w.heap.size, 0, none⟩ = some (.int .i64 v) ∧ W.cell? ⟨w.heap.size, 1, none⟩ = some (.string c) ∧ W.cell? ⟨w.heap.size, 2, none⟩ = some (.int .i64 i) ∧ W.cell? ⟨w.heap.size, 3, none⟩ = some (.int .i64 s) ∧ W.cell? ⟨w.heap.size, 4, none⟩ = some (.bool false)) := Lib.hid (fun W hW => cells5 ((hW.block w.heap.size (Array.getElem?_eq_some_iff.1 hz).1).trans hz))
  obtain ⟨c0, c1, c2, c3, c4⟩ := cells5 hz
  have hb0 : Below w1.heap.size w1 w1.drew := (Below.refl _ w1).drew
  have q1 := add_run (a := F) (b := c) (by omega)
  have q2 := add_run (a := F ++ c) (b := I) (by simp only [ByteArray.size_append]; omega)
  have q3 := add_run (a := (F ++ c) ++ I) (b := S) (by simp only [ByteArray.size_append]; omega)
  have q4 := add_run (a := ((F ++ c) ++ I) ++ S) (b := ⟨#[0]⟩) (by simp only [ByteArray.size_append]; omega)
  clear hz hB hw1 hFa hIa hSa hFb hIb hSb hD h2 h3 h4
  go_enter Tryd.func36, Tryd.ntmps36
  go_wp2
  rw [HW.out]
  go_region_held3 (fun W => W.cell? ⟨w.heap.size, 0, none⟩ = some (.int .i64 v) ∧ W.cell? ⟨w.heap.size, 1, none⟩ = some (.string c) ∧ W.cell? ⟨w.heap.size, 2, none⟩ = some (.int .i64 i) ∧ W.cell? ⟨w.heap.size, 3, none⟩ = some (.int .i64 s) ∧ W.cell? ⟨w.heap.size, 4, none⟩ = some (.bool false)) (first | exact ⟨c0, c1, c2, c3, c4⟩ | exact HK.out _ (by assumption)) (first | (go_at_call 40; (with_reducible refine (HF.out _ (by assumption)).mono ?_); rintro e wq ⟨rfl, hcq⟩) | (go_at_call 41; (with_reducible refine (HI.out _ (by assumption)).mono ?_); rintro e wq ⟨rfl, hcq⟩) | (go_at_call 41; (with_reducible refine (HS.out _ (by assumption)).mono ?_); rintro e wq ⟨rfl, hcq⟩))
  have HE := Lib.hid (HB.out.trans (hcq.mono HB.out.size))
  go_wp2
  go_ret
  exact ⟨by rw [← HP.out]; rfl, HE.out⟩

set_option maxRecDepth 100000 in
set_option maxHeartbeats 4000000 in
theorem bytes_true (v : Int) (c : ByteArray) (i s : Int) (h0 : 0 ≤ v) (h1 : v < 4294967296) (hs : c.size ≤ 140737488351232) (w : World) : Calls Tryd.prog 36 #[.agg #[.int .i64 v, .string c, .int .i64 i, .int .i64 s, .bool true]] w fun x w' => x = .returned (.string ⟨(writtenB ⟨v, c, i, s, true⟩).toArray⟩) ∧ Below w.heap.size w w' := by
  have h2 := vNum_len i
  have h3 := vNum_len s
  have h4 := fourB_len v
  obtain ⟨F, hFa, _, hFb⟩ := name_s (fourB v)
  obtain ⟨I, hIa, _, hIb⟩ := name_s (vNum i)
  obtain ⟨S, hSa, _, hSb⟩ := name_s (vNum s)
  have hD : (⟨#[1]⟩ : ByteArray).size = 1 := rfl
  have hP : (((F ++ c) ++ I) ++ S) ++ ⟨#[1]⟩ = ⟨(writtenB ⟨v, c, i, s, true⟩).toArray⟩ := by
    have hd : (⟨#[1]⟩ : ByteArray) = ⟨(deadB true).toArray⟩ := rfl
    unfold writtenB placedB
    rw [← str_app, ← str_app, ← str_app, ← str_app, hFa, hIa, hSa, hd]
  have HP := Lib.hid hP
  clear hP
  generalize (⟨(writtenB ⟨v, c, i, s, true⟩).toArray⟩ : ByteArray) = R at HP ⊢
  obtain ⟨w1, hw1⟩ : ∃ w1, w.alloc (.cells #[.int .i64 v, .string c, .int .i64 i, .int .i64 s, .bool true] 33) = w1 := ⟨_, rfl⟩
  have hz : w1.heap[w.heap.size]? = some (.cells #[.int .i64 v, .string c, .int .i64 i, .int .i64 s, .bool true] 33 (0, 0)) := by rw [← hw1]; exact World.alloc_heap_new w _
  have hB : Below w.heap.size w w1 := by rw [← hw1]; exact (Below.refl _ w).alloc (Nat.le_refl _) _
  have HB := Lib.hid hB
  have HW := Lib.hid hw1
  have HF : Hid (∀ W, Below w1.heap.size w1 W → Calls Tryd.prog 40 #[.int .i64 v] W (fun e W' => e = .returned (.string F) ∧ Below w1.heap.size w1 W')) := Lib.hid (fun W hW => by rw [← hFa]; exact (four_calls v h0 h1 W).mono (fun e W' ⟨k1, k2⟩ => ⟨k1, hW.trans (k2.mono hW.size)⟩))
  have HI : Hid (∀ W, Below w1.heap.size w1 W → Calls Tryd.prog 41 #[.int .i64 i] W (fun e W' => e = .returned (.string I) ∧ Below w1.heap.size w1 W')) := Lib.hid (fun W hW => by rw [← hIa]; exact (num6_calls i W).mono (fun e W' ⟨k1, k2⟩ => ⟨k1, hW.trans (k2.mono hW.size)⟩))
  have HS : Hid (∀ W, Below w1.heap.size w1 W → Calls Tryd.prog 41 #[.int .i64 s] W (fun e W' => e = .returned (.string S) ∧ Below w1.heap.size w1 W')) := Lib.hid (fun W hW => by rw [← hSa]; exact (num6_calls s W).mono (fun e W' ⟨k1, k2⟩ => ⟨k1, hW.trans (k2.mono hW.size)⟩))
  have HK : Hid (∀ W, Below w1.heap.size w1 W → W.cell? ⟨w.heap.size, 0, none⟩ = some (.int .i64 v) ∧ W.cell? ⟨w.heap.size, 1, none⟩ = some (.string c) ∧ W.cell? ⟨w.heap.size, 2, none⟩ = some (.int .i64 i) ∧ W.cell? ⟨w.heap.size, 3, none⟩ = some (.int .i64 s) ∧ W.cell? ⟨w.heap.size, 4, none⟩ = some (.bool true)) := Lib.hid (fun W hW => cells5 ((hW.block w.heap.size (Array.getElem?_eq_some_iff.1 hz).1).trans hz))
  obtain ⟨c0, c1, c2, c3, c4⟩ := cells5 hz
  have hb0 : Below w1.heap.size w1 w1.drew := (Below.refl _ w1).drew
  have q1 := add_run (a := F) (b := c) (by omega)
  have q2 := add_run (a := F ++ c) (b := I) (by simp only [ByteArray.size_append]; omega)
  have q3 := add_run (a := (F ++ c) ++ I) (b := S) (by simp only [ByteArray.size_append]; omega)
  have q4 := add_run (a := ((F ++ c) ++ I) ++ S) (b := ⟨#[1]⟩) (by simp only [ByteArray.size_append]; omega)
  clear hz hB hw1 hFa hIa hSa hFb hIb hSb hD h2 h3 h4
  go_enter Tryd.func36, Tryd.ntmps36
  go_wp2
  rw [HW.out]
  go_region_held3 (fun W => W.cell? ⟨w.heap.size, 0, none⟩ = some (.int .i64 v) ∧ W.cell? ⟨w.heap.size, 1, none⟩ = some (.string c) ∧ W.cell? ⟨w.heap.size, 2, none⟩ = some (.int .i64 i) ∧ W.cell? ⟨w.heap.size, 3, none⟩ = some (.int .i64 s) ∧ W.cell? ⟨w.heap.size, 4, none⟩ = some (.bool true)) (first | exact ⟨c0, c1, c2, c3, c4⟩ | exact HK.out _ (by assumption)) (first | (go_at_call 40; (with_reducible refine (HF.out _ (by assumption)).mono ?_); rintro e wq ⟨rfl, hcq⟩) | (go_at_call 41; (with_reducible refine (HI.out _ (by assumption)).mono ?_); rintro e wq ⟨rfl, hcq⟩) | (go_at_call 41; (with_reducible refine (HS.out _ (by assumption)).mono ?_); rintro e wq ⟨rfl, hcq⟩))
  have HE := Lib.hid (HB.out.trans (hcq.mono HB.out.size))
  go_wp2
  go_ret
  exact ⟨by rw [← HP.out]; rfl, HE.out⟩

set_option maxRecDepth 100000 in
set_option maxHeartbeats 4000000 in
theorem headText_calls (h : Hd) (n : Int) (w : World) : Calls Tryd.prog 38 #[h.val, .int .i64 n] w fun x w' => x = .returned (.string ⟨(headTB h n).toArray⟩) ∧ Below w.heap.size w w' := by
  obtain ⟨a, t, b, lo, hi, u⟩ := h
  have l0 := vNum_len a
  have l1 := vNum_len t
  have l2 := vNum_len b
  have l3 := vNum_len lo
  have l4 := vNum_len hi
  have l5 := vNum_len n
  obtain ⟨A, hAa, _, hAb⟩ := name_s (vNum a)
  obtain ⟨T, hTa, _, hTb⟩ := name_s (vNum t)
  obtain ⟨Bb, hBba, _, hBbb⟩ := name_s (vNum b)
  obtain ⟨L, hLa, _, hLb⟩ := name_s (vNum lo)
  obtain ⟨H, hHa, _, hHb⟩ := name_s (vNum hi)
  obtain ⟨N, hNa, _, hNb⟩ := name_s (vNum n)
  have hP : ((((A ++ T) ++ Bb) ++ L) ++ H) ++ N = ⟨(headTB ⟨a, t, b, lo, hi, u⟩ n).toArray⟩ := by
    unfold headTB
    rw [← str_app, ← str_app, ← str_app, ← str_app, ← str_app, hAa, hTa, hBba, hLa, hHa, hNa]
  have HP := Lib.hid hP
  clear hP
  generalize (⟨(headTB ⟨a, t, b, lo, hi, u⟩ n).toArray⟩ : ByteArray) = R at HP ⊢
  simp only [Hd.val]
  obtain ⟨w1, hw1⟩ : ∃ w1, w.alloc (.cells #[.int .i64 a, .int .i64 t, .int .i64 b, .int .i64 lo, .int .i64 hi, .int .i64 u] 23) = w1 := ⟨_, rfl⟩
  have hz : w1.heap[w.heap.size]? = some (.cells #[.int .i64 a, .int .i64 t, .int .i64 b, .int .i64 lo, .int .i64 hi, .int .i64 u] 23 (0, 0)) := by rw [← hw1]; exact World.alloc_heap_new w _
  have hB : Below w.heap.size w w1 := by rw [← hw1]; exact (Below.refl _ w).alloc (Nat.le_refl _) _
  have HB := Lib.hid hB
  have HW := Lib.hid hw1
  have HnA : Hid (∀ W, Below w1.heap.size w1 W → Calls Tryd.prog 41 #[.int .i64 a] W (fun e W' => e = .returned (.string A) ∧ Below w1.heap.size w1 W')) := Lib.hid (fun W hW => by rw [← hAa]; exact (num6_calls a W).mono (fun e W' ⟨k1, k2⟩ => ⟨k1, hW.trans (k2.mono hW.size)⟩))
  have HnT : Hid (∀ W, Below w1.heap.size w1 W → Calls Tryd.prog 41 #[.int .i64 t] W (fun e W' => e = .returned (.string T) ∧ Below w1.heap.size w1 W')) := Lib.hid (fun W hW => by rw [← hTa]; exact (num6_calls t W).mono (fun e W' ⟨k1, k2⟩ => ⟨k1, hW.trans (k2.mono hW.size)⟩))
  have HnBb : Hid (∀ W, Below w1.heap.size w1 W → Calls Tryd.prog 41 #[.int .i64 b] W (fun e W' => e = .returned (.string Bb) ∧ Below w1.heap.size w1 W')) := Lib.hid (fun W hW => by rw [← hBba]; exact (num6_calls b W).mono (fun e W' ⟨k1, k2⟩ => ⟨k1, hW.trans (k2.mono hW.size)⟩))
  have HnL : Hid (∀ W, Below w1.heap.size w1 W → Calls Tryd.prog 41 #[.int .i64 lo] W (fun e W' => e = .returned (.string L) ∧ Below w1.heap.size w1 W')) := Lib.hid (fun W hW => by rw [← hLa]; exact (num6_calls lo W).mono (fun e W' ⟨k1, k2⟩ => ⟨k1, hW.trans (k2.mono hW.size)⟩))
  have HnH : Hid (∀ W, Below w1.heap.size w1 W → Calls Tryd.prog 41 #[.int .i64 hi] W (fun e W' => e = .returned (.string H) ∧ Below w1.heap.size w1 W')) := Lib.hid (fun W hW => by rw [← hHa]; exact (num6_calls hi W).mono (fun e W' ⟨k1, k2⟩ => ⟨k1, hW.trans (k2.mono hW.size)⟩))
  have HnN : Hid (∀ W, Below w1.heap.size w1 W → Calls Tryd.prog 41 #[.int .i64 n] W (fun e W' => e = .returned (.string N) ∧ Below w1.heap.size w1 W')) := Lib.hid (fun W hW => by rw [← hNa]; exact (num6_calls n W).mono (fun e W' ⟨k1, k2⟩ => ⟨k1, hW.trans (k2.mono hW.size)⟩))
  have HK : Hid (∀ W, Below w1.heap.size w1 W → W.cell? ⟨w.heap.size, 0, none⟩ = some (.int .i64 a) ∧ W.cell? ⟨w.heap.size, 1, none⟩ = some (.int .i64 t) ∧ W.cell? ⟨w.heap.size, 2, none⟩ = some (.int .i64 b) ∧ W.cell? ⟨w.heap.size, 3, none⟩ = some (.int .i64 lo) ∧ W.cell? ⟨w.heap.size, 4, none⟩ = some (.int .i64 hi) ∧ W.cell? ⟨w.heap.size, 5, none⟩ = some (.int .i64 u)) := Lib.hid (fun W hW => cells6 ((hW.block w.heap.size (Array.getElem?_eq_some_iff.1 hz).1).trans hz))
  obtain ⟨c0, c1, c2, c3, c4, c5⟩ := cells6 hz
  have hb0 : Below w1.heap.size w1 w1.drew := (Below.refl _ w1).drew
  have q1 := add_run (a := A) (b := T) (by (try simp only [ByteArray.size_append]); omega)
  have q2 := add_run (a := (A) ++ T) (b := Bb) (by (try simp only [ByteArray.size_append]); omega)
  have q3 := add_run (a := ((A) ++ T) ++ Bb) (b := L) (by (try simp only [ByteArray.size_append]); omega)
  have q4 := add_run (a := (((A) ++ T) ++ Bb) ++ L) (b := H) (by (try simp only [ByteArray.size_append]); omega)
  have q5 := add_run (a := ((((A) ++ T) ++ Bb) ++ L) ++ H) (b := N) (by (try simp only [ByteArray.size_append]); omega)
  clear hz hB hw1 hAa hAb hTa hTb hBba hBbb hLa hLb hHa hHb hNa hNb l0 l1 l2 l3 l4 l5
  go_enter Tryd.func38, Tryd.ntmps38
  go_wp2
  rw [HW.out]
  go_region_held3 (fun W => W.cell? ⟨w.heap.size, 0, none⟩ = some (.int .i64 a) ∧ W.cell? ⟨w.heap.size, 1, none⟩ = some (.int .i64 t) ∧ W.cell? ⟨w.heap.size, 2, none⟩ = some (.int .i64 b) ∧ W.cell? ⟨w.heap.size, 3, none⟩ = some (.int .i64 lo) ∧ W.cell? ⟨w.heap.size, 4, none⟩ = some (.int .i64 hi) ∧ W.cell? ⟨w.heap.size, 5, none⟩ = some (.int .i64 u)) (first | exact ⟨c0, c1, c2, c3, c4, c5⟩ | exact HK.out _ (by assumption)) (first | (go_at_call 41; (with_reducible refine (HnA.out _ (by assumption)).mono ?_); rintro e wq ⟨rfl, hcq⟩) | (go_at_call 41; (with_reducible refine (HnT.out _ (by assumption)).mono ?_); rintro e wq ⟨rfl, hcq⟩) | (go_at_call 41; (with_reducible refine (HnBb.out _ (by assumption)).mono ?_); rintro e wq ⟨rfl, hcq⟩) | (go_at_call 41; (with_reducible refine (HnL.out _ (by assumption)).mono ?_); rintro e wq ⟨rfl, hcq⟩) | (go_at_call 41; (with_reducible refine (HnH.out _ (by assumption)).mono ?_); rintro e wq ⟨rfl, hcq⟩) | (go_at_call 41; (with_reducible refine (HnN.out _ (by assumption)).mono ?_); rintro e wq ⟨rfl, hcq⟩))
  have HE := Lib.hid (HB.out.trans (hcq.mono HB.out.size))
  go_wp2
  go_ret
  exact ⟨by rw [← HP.out]; rfl, HE.out⟩

theorem frameR_ok {k : Nat} {p : List UInt8} (h1 : 1 ≤ k) (h2 : k ≤ 255) (h3 : p.length ≤ 65536) : frameR k p = (frameB k p, 0) := by
  unfold frameR
  rw [if_neg (by omega), if_neg (by omega)]
  simp

set_option maxRecDepth 100000 in
set_option maxHeartbeats 1000000 in
theorem framed_calls (k : Nat) (h1 : 1 ≤ k) (h2 : k ≤ 255) (p : ByteArray) (h3 : p.size ≤ 65536) (w : World) : Calls Tryd.prog 37 #[.int .i64 k, .string p] w fun x w' => x = .returned (.string ⟨(frameB k p.data.toList).toArray⟩) ∧ Below w.heap.size w w' := by
  have C := RefFrame_calls k p (by omega) w
  rw [frameR_ok h1 h2 (by exact h3)] at C
  generalize (⟨(frameB k p.data.toList).toArray⟩ : ByteArray) = R at C ⊢
  go_enter Tryd.func37, Tryd.ntmps37
  go_wp2_with fail
  refine C.mono ?_
  rintro e w1 ⟨rfl, hb⟩
  have HB := Lib.hid hb
  clear hb
  go_wp2
  go_ret
  exact ⟨rfl, HB.out⟩

theorem bytes_calls (e : Ent) (h0 : 0 ≤ e.v) (h1 : e.v < 4294967296) (hs : e.c.size ≤ 140737488351232) (w : World) : Calls Tryd.prog 36 #[e.val] w fun x w' => x = .returned (.string ⟨(writtenB e).toArray⟩) ∧ Below w.heap.size w w' := by
  obtain ⟨v, c, i, s, d⟩ := e
  cases d with
  | false => exact bytes_false v c i s h0 h1 hs w
  | true => exact bytes_true v c i s h0 h1 hs w
end Go.Proofs.YtihgjihdmlomaaaDoor

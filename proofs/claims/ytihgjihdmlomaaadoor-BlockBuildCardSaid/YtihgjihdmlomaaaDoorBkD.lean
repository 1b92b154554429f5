/-
  SORTED FILES: numbers and entries as bytes, by the program and by the document.
-/
import Derived.Test.YtihgjihdmlomaaaDoorBkC
import Derived.Test.YtihgjihdmlomaaaDoorFrame
namespace Go.Proofs.YtihgjihdmlomaaaDoor
open Go.RowKit
set_option linter.unusedVariables false

def vNum (n : Int) : List UInt8 := varB (IntKind.u64.wrap n).toNat
theorem varF_len : ∀ (f v : Nat), (varF f v).length ≤ f + 1
  | 0, v => by simp [varF]
  | f + 1, v => by
    unfold varF
    split
    · simp
    · have := varF_len f (v / 128)
      simp
      omega
theorem vNum_len (n : Int) : (vNum n).length ≤ 10 := varF_len 9 _
theorem wrap_u64_nat (n : Int) : ∃ v : Nat, IntKind.u64.wrap n = v ∧ v < 18446744073709551616 := ⟨(IntKind.u64.wrap n).toNat, by rw [IntKind.wrap_u64]; omega, by rw [IntKind.wrap_u64]; omega⟩

/-- Texts one behind the other. -/
theorem str_app (x y : List UInt8) : (⟨x.toArray⟩ : ByteArray) ++ ⟨y.toArray⟩ = ⟨(x ++ y).toArray⟩ := by
  rw [ByteArray.ext_iff]
  simp

/-- An entry's place as bytes; an entry as bytes. -/
def fourB (n : Int) : List UInt8 := fixedB n.toNat 4
def placedB (e : Ent) : List UInt8 := fourB e.v ++ e.c.data.toList ++ vNum e.i
def deadB (d : Bool) : List UInt8 := if d then [1] else [0]
def writtenB (e : Ent) : List UInt8 := placedB e ++ vNum e.s ++ deadB e.d

set_option maxRecDepth 100000 in
set_option maxHeartbeats 1000000 in
theorem number_calls (n : Int) (w : World) : Calls Tryd.prog 58 #[.int .i64 n] w fun e w' => e = .returned (.string ⟨(vNum n).toArray⟩) ∧ Below w.heap.size w w' := by
  obtain ⟨v, hv, hlt⟩ := wrap_u64_nat n
  have hV : varB v = vNum n := by unfold vNum; rw [hv]; rfl
  have HV := Lib.hid hV
  clear hV
  go_enter Tryd.func58, Tryd.ntmps58
  go_wp2_with fail
  refine (PutVar_calls v hlt _).mono ?_
  rintro e w1 ⟨rfl, hb⟩
  have HB := Lib.hid hb
  clear hb hv
  go_wp2
  go_ret
  exact ⟨by rw [HV.out]; rfl, HB.out⟩

set_option maxRecDepth 100000 in
set_option maxHeartbeats 1000000 in
theorem num6_calls (n : Int) (w : World) : Calls Tryd.prog 41 #[.int .i64 n] w fun e w' => e = .returned (.string ⟨(vNum n).toArray⟩) ∧ Below w.heap.size w w' := by
  obtain ⟨v, hv, hlt⟩ := wrap_u64_nat n
  have hV : varB v = vNum n := by unfold vNum; rw [hv]; rfl
  have HV := Lib.hid hV
  clear hV
  go_enter Tryd.func41, Tryd.ntmps41
  go_wp2_with fail
  refine (RefPutVar_calls v hlt _).mono ?_
  rintro e w1 ⟨rfl, hb⟩
  have HB := Lib.hid hb
  clear hb hv
  go_wp2
  go_ret
  exact ⟨by rw [HV.out]; rfl, HB.out⟩

theorem putFix_four {v : Nat} (h : v < 4294967296) : putFix v 4 = (fixedB v 4, 0) := by
  unfold putFix
  simp
  omega

set_option maxRecDepth 100000 in
set_option maxHeartbeats 1000000 in
theorem four_calls (n : Int) (h0 : 0 ≤ n) (h1 : n < 4294967296) (w : World) : Calls Tryd.prog 40 #[.int .i64 n] w fun e w' => e = .returned (.string ⟨(fourB n).toArray⟩) ∧ Below w.heap.size w w' := by
  obtain ⟨v, rfl⟩ := Int.eq_ofNat_of_zero_le h0
  have hF : fixedB v 4 = fourB v := rfl
  have C := RefPutFix_calls v (by omega) 4 w
  rw [putFix_four (by omega), hF] at C
  generalize fourB (v : Int) = F at C ⊢
  clear hF
  go_enter Tryd.func40, Tryd.ntmps40
  go_wp2_with fail
  refine C.mono ?_
  rintro e w1 ⟨rfl, hb⟩
  have HB := Lib.hid hb
  clear hb
  go_wp2
  go_ret
  exact ⟨rfl, HB.out⟩

theorem fourB_len (n : Int) : (fourB n).length = 4 := fixedB_length _ _
theorem deadB_len (d : Bool) : (deadB d).length = 1 := by cases d <;> rfl

/-- A text and its name. -/
theorem name_s (l : List UInt8) : ∃ s : ByteArray, (⟨l.toArray⟩ : ByteArray) = s ∧ s.data.toList = l ∧ s.size = l.length := ⟨_, rfl, rfl, rfl⟩

theorem add_run {a b : ByteArray} (h : a.size + b.size ≤ 9223372036854775807) (W : World) : (Op.stringOp .add a b).run Tryd.prog W = .ok (.string (a ++ b)) W := run_string_add_sum W a b h

set_option maxRecDepth 100000 in
set_option maxHeartbeats 2000000 in
theorem placed_calls (e : Ent) (h0 : 0 ≤ e.v) (h1 : e.v < 4294967296) (hs : e.c.size ≤ 140737488351232) (w : World) : Calls Tryd.prog 86 #[e.val] w fun x w' => x = .returned (.string ⟨(placedB e).toArray⟩) ∧ Below w.heap.size w w' := by
  obtain ⟨n, hn⟩ := Int.eq_ofNat_of_zero_le h0
  have C := fun W => PutFix_calls n (by omega) 4 W
  have hF : fixedB n 4 = fourB e.v := by unfold fourB; rw [hn]; rfl
  rw [putFix_four (by omega), hF] at C
  have CN := number_calls e.i
  obtain ⟨F, hF1, hF2, hF3⟩ := name_s (fourB e.v)
  obtain ⟨V, hV1, hV2, hV3⟩ := name_s (vNum e.i)
  have hP : (F ++ e.c) ++ V = ⟨(placedB e).toArray⟩ := by
    unfold placedB
    rw [← str_app, ← str_app, hF1, hV1]
  rw [fourB_len] at hF3
  have hvl := vNum_len e.i
  simp only [hF1, hV1] at C CN
  clear hF1 hF2 hV1 hV2
  generalize (⟨(placedB e).toArray⟩ : ByteArray) = R at hP ⊢
  obtain ⟨v, c, i, s, d⟩ := e
  simp only [Ent.val] at *
  subst hn
  have r1 := add_run (a := F) (b := c) (by omega)
  have r2 := add_run (a := F ++ c) (b := V) (by rw [ByteArray.size_append]; omega)
  have HP := Lib.hid hP
  have HC := Lib.hid C
  have HN := Lib.hid CN
  clear hP C CN hF hF3 hV3 hvl
  go_enter Tryd.func86, Tryd.ntmps86
  go_wp2_with fail
  refine (HC.out _).mono ?_
  rintro e w1 ⟨rfl, hb⟩
  have hz := (hb.block w.heap.size (by simp)).trans (World.alloc_heap_new w _)
  have hb0 := ((Below.refl _ w).alloc (Nat.le_refl _) (.cells #[.int .i64 (n : Nat), .string c, .int .i64 i, .int .i64 s, .bool d] 33)).trans (hb.mono (by simp))
  have HB := Lib.hid hb0
  have c1 : w1.cell? ⟨w.heap.size, 1, none⟩ = some (.string c) := by rw [cell_of_row _ _ 1 _ _ _ hz]; rfl
  have c2 : w1.cell? ⟨w.heap.size, 2, none⟩ = some (.int .i64 i) := by rw [cell_of_row _ _ 2 _ _ _ hz]; rfl
  have hl : w.heap.size < w1.heap.size := (Array.getElem?_eq_some_iff.1 hz).1
  have HL := Lib.hid hl
  clear hb hz hb0
  go_wp2
  go_region_held3 (fun W => W.cell? ⟨w.heap.size, 1, none⟩ = some (.string c) ∧ W.cell? ⟨w.heap.size, 2, none⟩ = some (.int .i64 i)) (first | exact ⟨c1, c2⟩ | exact ⟨(hc1.cell (p := ⟨w.heap.size, 1, none⟩) HL.out).trans c1, (hc1.cell (p := ⟨w.heap.size, 2, none⟩) HL.out).trans c2⟩) (first | (go_at_call 58; refine (HN.out _).mono ?_; rintro e w2 ⟨rfl, hc1⟩))
  have HE := Lib.hid (HB.out.trans ((show Below w1.heap.size w1 w2 from ⟨hc1.os, hc1.tape, hc1.output, hc1.size, hc1.block⟩).mono HB.out.size))
  clear hc1
  go_wp2
  go_ret
  exact ⟨by rw [← HP.out]; rfl, HE.out⟩

theorem below_of {a b : World} (h : Below a.drew.heap.size a.drew b) : Below a.heap.size a b := ⟨h.os, h.tape, h.output, h.size, h.block⟩

set_option maxRecDepth 100000 in
set_option maxHeartbeats 2000000 in
theorem written_calls (e : Ent) (h0 : 0 ≤ e.v) (h1 : e.v < 4294967296) (hs : e.c.size ≤ 140737488351232) (w : World) : Calls Tryd.prog 83 #[e.val] w fun x w' => x = .returned (.string ⟨(writtenB e).toArray⟩) ∧ Below w.heap.size w w' := by
  have CP := placed_calls e h0 h1 hs
  have CN := number_calls e.s
  obtain ⟨F, hF1, hF2, hF3⟩ := name_s (placedB e)
  obtain ⟨V, hV1, hV2, hV3⟩ := name_s (vNum e.s)
  have hP : (F ++ V) ++ ⟨(deadB e.d).toArray⟩ = ⟨(writtenB e).toArray⟩ := by
    unfold writtenB
    rw [← str_app, ← str_app, hF1, hV1]
  have hpl : F.size ≤ 140737488351300 := by
    rw [hF3]
    have h4 := vNum_len e.i
    have h5 := fourB_len e.v
    have h6 : e.c.data.toList.length = e.c.size := rfl
    simp [placedB]
    omega
  have hvl := vNum_len e.s
  have hdl := deadB_len e.d
  simp only [hF1, hV1] at CP CN
  clear hF1 hF2 hV1 hV2 hF3
  generalize (⟨(writtenB e).toArray⟩ : ByteArray) = R at hP ⊢
  obtain ⟨v, c, i, s, d⟩ := e
  simp only [Ent.val] at *
  have HP := Lib.hid hP
  have HC := Lib.hid CP
  have HN := Lib.hid CN
  have hB := (Below.refl _ w).alloc (Nat.le_refl _) (.cells #[.int .i64 v, .string c, .int .i64 i, .int .i64 s, .bool d] 33)
  have hz := World.alloc_heap_new w (.cells #[.int .i64 v, .string c, .int .i64 i, .int .i64 s, .bool d] 33)
  obtain ⟨w1, hw1⟩ : ∃ w1, w.alloc (.cells #[.int .i64 v, .string c, .int .i64 i, .int .i64 s, .bool d] 33) = w1 := ⟨_, rfl⟩
  rw [hw1] at hz hB
  have HB := Lib.hid hB
  have c0 : w1.cell? ⟨w.heap.size, 0, none⟩ = some (.int .i64 v) := by rw [cell_of_row _ _ 0 _ _ _ hz]; rfl
  have c1 : w1.cell? ⟨w.heap.size, 1, none⟩ = some (.string c) := by rw [cell_of_row _ _ 1 _ _ _ hz]; rfl
  have c2 : w1.cell? ⟨w.heap.size, 2, none⟩ = some (.int .i64 i) := by rw [cell_of_row _ _ 2 _ _ _ hz]; rfl
  have c3 : w1.cell? ⟨w.heap.size, 3, none⟩ = some (.int .i64 s) := by rw [cell_of_row _ _ 3 _ _ _ hz]; rfl
  have c4 : w1.cell? ⟨w.heap.size, 4, none⟩ = some (.bool d) := by rw [cell_of_row _ _ 4 _ _ _ hz]; rfl
  have hl : w.heap.size < w1.heap.size := (Array.getElem?_eq_some_iff.1 hz).1
  have HL := Lib.hid hl
  have HW := Lib.hid hw1
  have r1 := add_run (a := F) (b := V) (by omega)
  have HK : Hid (∀ W, Below w1.heap.size w1 W → W.cell? ⟨w.heap.size, 0, none⟩ = some (.int .i64 v) ∧ W.cell? ⟨w.heap.size, 1, none⟩ = some (.string c) ∧ W.cell? ⟨w.heap.size, 2, none⟩ = some (.int .i64 i) ∧ W.cell? ⟨w.heap.size, 3, none⟩ = some (.int .i64 s) ∧ W.cell? ⟨w.heap.size, 4, none⟩ = some (.bool d)) := Lib.hid (fun W hW => ⟨(hW.cell (p := ⟨w.heap.size, 0, none⟩) hl).trans c0, (hW.cell (p := ⟨w.heap.size, 1, none⟩) hl).trans c1, (hW.cell (p := ⟨w.heap.size, 2, none⟩) hl).trans c2, (hW.cell (p := ⟨w.heap.size, 3, none⟩) hl).trans c3, (hW.cell (p := ⟨w.heap.size, 4, none⟩) hl).trans c4⟩)
  cases d with
  | false =>
    have hd : (⟨(deadB false).toArray⟩ : ByteArray) = ⟨#[0]⟩ := rfl
    rw [hd] at HP
    have r2 := add_run (a := F ++ V) (b := ⟨#[0]⟩) (by rw [ByteArray.size_append]; have : (⟨#[0]⟩ : ByteArray).size = 1 := rfl; omega)
    clear hP CP CN hw1 hz hB hl hd hvl hpl hdl hV3
    go_enter Tryd.func83, Tryd.ntmps83
    go_wp2
    rw [HW.out]
    go_region_held3 (fun W => W.cell? ⟨w.heap.size, 0, none⟩ = some (.int .i64 v) ∧ W.cell? ⟨w.heap.size, 1, none⟩ = some (.string c) ∧ W.cell? ⟨w.heap.size, 2, none⟩ = some (.int .i64 i) ∧ W.cell? ⟨w.heap.size, 3, none⟩ = some (.int .i64 s) ∧ W.cell? ⟨w.heap.size, 4, none⟩ = some (.bool false)) (first | exact ⟨c0, c1, c2, c3, c4⟩ | exact HK.out _ (below_of hc1) | exact HK.out _ ((below_of hc1).trans (hc2.mono hc1.size))) (first | (go_at_call 86; refine (HC.out _).mono ?_; rintro e w2 ⟨rfl, hc1⟩) | (go_at_call 58; refine (HN.out _).mono ?_; rintro e w3 ⟨rfl, hc2⟩))
    have HE := Lib.hid (HB.out.trans (((below_of hc1).trans (hc2.mono hc1.size)).mono HB.out.size))
    clear hc1 hc2
    go_wp2
    go_ret
    exact ⟨by rw [← HP.out]; rfl, HE.out⟩
  | true =>
    have hd : (⟨(deadB true).toArray⟩ : ByteArray) = ⟨#[1]⟩ := rfl
    rw [hd] at HP
    have r2 := add_run (a := F ++ V) (b := ⟨#[1]⟩) (by rw [ByteArray.size_append]; have : (⟨#[1]⟩ : ByteArray).size = 1 := rfl; omega)
    clear hP CP CN hw1 hz hB hl hd hvl hpl hdl hV3
    go_enter Tryd.func83, Tryd.ntmps83
    go_wp2
    rw [HW.out]
    go_region_held3 (fun W => W.cell? ⟨w.heap.size, 0, none⟩ = some (.int .i64 v) ∧ W.cell? ⟨w.heap.size, 1, none⟩ = some (.string c) ∧ W.cell? ⟨w.heap.size, 2, none⟩ = some (.int .i64 i) ∧ W.cell? ⟨w.heap.size, 3, none⟩ = some (.int .i64 s) ∧ W.cell? ⟨w.heap.size, 4, none⟩ = some (.bool true)) (first | exact ⟨c0, c1, c2, c3, c4⟩ | exact HK.out _ (below_of hc1) | exact HK.out _ ((below_of hc1).trans (hc2.mono hc1.size))) (first | (go_at_call 86; refine (HC.out _).mono ?_; rintro e w2 ⟨rfl, hc1⟩) | (go_at_call 58; refine (HN.out _).mono ?_; rintro e w3 ⟨rfl, hc2⟩))
    have HE := Lib.hid (HB.out.trans (((below_of hc1).trans (hc2.mono hc1.size)).mono HB.out.size))
    clear hc1 hc2
    go_wp2
    go_ret
    exact ⟨by rw [← HP.out]; rfl, HE.out⟩
end Go.Proofs.YtihgjihdmlomaaaDoor

/-
  WALKS: the program's writer: numbers and texts.
-/
import Derived.Test.YtabhjkaheghbhaaWr
namespace Go.Proofs.Ytabhjkaheghbhaa
open Go.RowKit
set_option linter.unusedVariables false

theorem varF_len : ∀ (f v : Nat), (varF f v).length ≤ f + 1
  | 0, v => by simp [varF]
  | f + 1, v => by
    have := varF_len f (v / 128)
    by_cases h : v < 128
    · rw [varF_low _ _ h]; simp
    · rw [varF_high _ _ h]; simp; omega
/-- A number as bytes. -/
def vNum (n : Int) : List UInt8 := varB (IntKind.u64.wrap n).toNat
theorem vNum_len (n : Int) : (vNum n).length ≤ 10 := varF_len 9 _
theorem wrap_u64_nat (n : Int) : ∃ v : Nat, IntKind.u64.wrap n = v ∧ v < 18446744073709551616 := ⟨(IntKind.u64.wrap n).toNat, by rw [IntKind.wrap_u64]; omega, by rw [IntKind.wrap_u64]; omega⟩
theorem str_toList (l : List UInt8) : (⟨l.toArray⟩ : ByteArray).data.toList = l := rfl
theorem str_size (l : List UInt8) : (⟨l.toArray⟩ : ByteArray).size = l.length := rfl

set_option maxRecDepth 100000 in
set_option maxHeartbeats 1000000 in
theorem wnumber_calls (B r : Nat) (l : List UInt8) (bad : Int) (n : Int) (w : World) (h : Wr w B r l bad) (hlen : l.length + 10 ≤ 140737488355328) :
    Calls Try.prog 34 #[.pointer (some ⟨r, 0, none⟩), .int .i64 n] w fun x w' => x = .returned (.tuple #[]) ∧ Wr w' B r (l ++ vNum n) (rf (decide (n < 0)) 13 bad) ∧ Below B w w' ∧ Oth w w' r := by
  obtain ⟨v, hv, hv64⟩ := wrap_u64_nat n
  have hl := vNum_len n
  unfold vNum at hl ⊢
  rw [hv] at hl ⊢
  simp only [Int.toNat_natCast] at hl ⊢
  have C := Lib.hid (wrefuse_calls B r l bad (decide (n < 0)) 13 w h)
  have P := Lib.hid (PutVar_calls v hv64)
  have S := Lib.hid (fun (e : Int) W h => WriteString_calls B r l e ⟨(varB v).toArray⟩ W h (by rw [str_size]; omega))
  generalize rf (decide (n < 0)) 13 bad = e at C ⊢
  clear h hl
  go_enter Try.func34, Try.ntmps34
  go_wp2_with fail
  refine C.out.mono ?_
  rintro x w1 ⟨rfl, h1, hb1, ho1⟩
  have H1 := Lib.hid h1
  have HB1 := Lib.hid hb1
  have HO1 := Lib.hid ho1
  clear h1 hb1 ho1
  go_wp2
  go_region_held3 (fun W => True)
    (first | exact trivial)
    (first | (go_at_call 85; refine (P.out _).mono ?_; rintro x w2 ⟨rfl, hb2⟩) | (refine (S.out e _ ((H1.out.drewN 1).below hb2)).mono ?_; rintro x w3 ⟨rfl, h3, hb3, ho3⟩))
  have HW := Lib.hid h3.wr
  have HB := Lib.hid ((HB1.out.drew.trans (hb2.mono (Nat.le_trans H1.out.le (Nat.le_of_lt H1.out.lt)))).trans hb3)
  have HO := Lib.hid (((HO1.out.trans (Oth.drew _ _)).trans (Oth.below r hb2)).trans ho3)
  clear h3 hb3 hb2 H1 HB1 ho3 HO1
  go_wp2
  go_end0
  exact ⟨rfl, HW.out, HB.out, HO.out⟩

set_option maxRecDepth 100000 in
set_option maxHeartbeats 1000000 in
theorem wtext_calls (B r : Nat) (l : List UInt8) (bad : Int) (s : ByteArray) (w : World) (h : Wr w B r l bad) (hlen : l.length + 10 + s.size ≤ 140737488355328) :
    Calls Try.prog 55 #[.pointer (some ⟨r, 0, none⟩), .string s] w fun x w' => x = .returned (.tuple #[]) ∧ Wr w' B r (l ++ vNum s.size ++ s.data.toList) (rf (decide (65536 < (s.size : Int))) 36 bad) ∧ Below B w w' ∧ Oth w w' r := by
  have hv : IntKind.u64.wrap (s.size : Int) = (s.size : Int) := by rw [IntKind.wrap_u64]; omega
  have hv64 : s.size < 18446744073709551616 := by omega
  have hl := vNum_len s.size
  unfold vNum at hl ⊢
  rw [hv] at hl ⊢
  simp only [Int.toNat_natCast] at hl ⊢
  have C := Lib.hid (wrefuse_calls B r l bad (decide (65536 < (s.size : Int))) 36 w h)
  have P := Lib.hid (PutVar_calls s.size hv64)
  have S := Lib.hid (fun (e : Int) W h => WriteString_calls B r l e ⟨(varB s.size).toArray⟩ W h (by rw [str_size]; omega))
  have S2 := Lib.hid (fun (e : Int) W h => WriteString_calls B r (l ++ varB s.size) e s W h (by rw [List.length_append]; omega))
  generalize rf (decide (65536 < (s.size : Int))) 36 bad = e at C ⊢
  clear h hl
  go_enter Try.func55, Try.ntmps55
  go_wp2_with fail
  refine C.out.mono ?_
  rintro x w1 ⟨rfl, h1, hb1, ho1⟩
  have H1 := Lib.hid h1
  have HB1 := Lib.hid hb1
  have HO1 := Lib.hid ho1
  clear h1 hb1 ho1
  go_wp2
  go_region_held3 (fun W => True)
    (first | exact trivial)
    (first | (go_at_call 85; refine (P.out _).mono ?_; rintro x w2 ⟨rfl, hb2⟩) | (refine (S.out e _ ((H1.out.drewN 1).below hb2)).mono ?_; rintro x w3 ⟨rfl, h3, hb3, ho3⟩))
  have HW := Lib.hid h3.wr
  have HB := Lib.hid ((HB1.out.drew.trans (hb2.mono (Nat.le_trans H1.out.le (Nat.le_of_lt H1.out.lt)))).trans hb3)
  have HO := Lib.hid (((HO1.out.trans (Oth.drew _ _)).trans (Oth.below r hb2)).trans ho3)
  clear h3 hb3 hb2 H1 HB1 ho3 HO1
  go_wp2_with fail
  refine (S2.out e _ HW.out).mono ?_
  rintro x w4 ⟨rfl, h4, hb4, ho4⟩
  have HW2 := Lib.hid h4.wr
  have HB2 := Lib.hid (HB.out.trans hb4)
  have HO2 := Lib.hid (HO.out.trans ho4)
  clear h4 hb4 ho4
  go_wp2
  go_end0
  exact ⟨rfl, HW2.out, HB2.out, HO2.out⟩
end Go.Proofs.Ytabhjkaheghbhaa

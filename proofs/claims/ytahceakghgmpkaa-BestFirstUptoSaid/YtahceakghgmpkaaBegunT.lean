/-
  WALK: begun, of a top of two.
-/
import Derived.Test.YtahceakghgmpkaaHanded
namespace Go.Proofs.Ytahceakghgmpkaa
open Go.RowKit
set_option linter.unusedVariables false

def bh (i : Int) : Hv := ⟨5, i, ⟨#[]⟩⟩

theorem bh_good (i : Int) (h : (Lit.int .i64 i).wf = true) : GoodH (bh i) := ⟨by rfl, h, show 0 ≤ 140737488351232 by decide⟩

theorem bg1 : decide (bh 1 ∈ (allH ([] ++ [bh 1])).take 2) = true := by kernel_rfl
theorem bg2 : decide (bh 3 ∈ (allH (([] ++ [bh 1]) ++ [bh 3])).take 2) = true := by kernel_rfl
theorem bg3 : decide (bh 2 ∈ (allH ((([] ++ [bh 1]) ++ [bh 3]) ++ [bh 2])).take 2) = true := by kernel_rfl
theorem bg4 : decide (bh 3 ∈ (allH (((([] ++ [bh 1]) ++ [bh 3]) ++ [bh 2]) ++ [bh 3])).take 2) = false := by kernel_rfl
theorem bg5 : (allH (((([] ++ [bh 1]) ++ [bh 3]) ++ [bh 2]) ++ [bh 3])).take 2 = [bh 1, bh 2] := by kernel_rfl

theorem hl_two (w : World) (x y : Hv) : HL (w.alloc (.cells #[.int .i64 x.d, .int .i64 x.i, .string x.c, .int .i64 y.d, .int .i64 y.i, .string y.c] 34)) (some ⟨w.heap.size, 0, none⟩) [x, y] := by
  have hb := World.alloc_heap_new w (.cells #[.int .i64 x.d, .int .i64 x.i, .string x.c, .int .i64 y.d, .int .i64 y.i, .string y.c] 34)
  generalize w.alloc (.cells #[.int .i64 x.d, .int .i64 x.i, .string x.c, .int .i64 y.d, .int .i64 y.i, .string y.c] 34) = W at hb ⊢
  intro i z hz
  match i, hz with
  | 0, h =>
    simp at h; subst h
    exact ⟨_, rfl, by simp [Addr.add, World.cell?, hb], by simp [Addr.add, World.cell?, hb], by simp [Addr.add, World.cell?, hb]⟩
  | 1, h =>
    simp at h; subst h
    exact ⟨_, rfl, by simp [Addr.add, World.cell?, hb], by simp [Addr.add, World.cell?, hb], by simp [Addr.add, World.cell?, hb]⟩

theorem Owned.list {w w1 : World} {tb k : Nat} {T : List Hv} (h : Owned 68 w tb (k : Int) T w1) (hn : T.length * 32 ≤ 140737488355328) :
    Calls Try.prog 19 #[.pointer (some ⟨tb, 0, none⟩)] w1 (ListPost w1 T) := by
  obtain ⟨F, h1, _, _⟩ := h
  exact top_list h1 hn

set_option maxRecDepth 100000 in
set_option maxHeartbeats 2000000 in
theorem begun_calls (w : World) : Calls Try.prog 16 #[] w fun e w' => e = .returned (.bool true) ∧ Below w.heap.size w w' := by
  have hb : ∀ (i : Int) (W : World), (Instr.build 34 #[(0, .int .i64 5), (1, .int .i64 i)]).run Try.prog W = .ok (.agg #[.int .i64 5, .int .i64 i, .string ⟨#[]⟩]) W := fun i W => run_build W _ _ _ (by kernel_rfl)
  have hb1 := hb 1
  have hb2 := hb 2
  have hb3 := hb 3
  have C := newTop_ok 2 (by omega) (by omega) w
  clear hb
  go_enter Try.func16, Try.ntmps16
  go_wp2_with fail
  refine C.mono ?_
  rintro e w1 ⟨tb, F, rfl, hT, hG, hF⟩
  have HO := Lib.hid (Owned.of_new (Below.refl w.heap.size w) hT hG hF)
  clear hT hG hF
  go_wp2_with fail
  have A1 := owned_add (w := w) (tb := tb) (k := 2) (H := []) HO.out (by decide) (bh 1) (bh_good 1 (by rfl))
  rw [bg1] at A1
  refine A1.mono ?_
  rintro e w2 ⟨rfl, h2⟩
  have HO2 := Lib.hid h2
  clear h2
  go_wp2_with fail
  have A2 := owned_add (w := w) (tb := tb) (k := 2) (H := [] ++ [bh 1]) HO2.out (by decide) (bh 3) (bh_good 3 (by rfl))
  rw [bg2] at A2
  refine A2.mono ?_
  rintro e w3 ⟨rfl, h3⟩
  have HO3 := Lib.hid h3
  clear h3
  go_wp2_with fail
  have A3 := owned_add (w := w) (tb := tb) (k := 2) (H := ([] ++ [bh 1]) ++ [bh 3]) HO3.out (by decide) (bh 2) (bh_good 2 (by rfl))
  rw [bg3] at A3
  refine A3.mono ?_
  rintro e w4 ⟨rfl, h4⟩
  have HO4 := Lib.hid h4
  clear h4
  go_wp2_with fail
  have A4 := owned_add (w := w) (tb := tb) (k := 2) (H := (([] ++ [bh 1]) ++ [bh 3]) ++ [bh 2]) HO4.out (by decide) (bh 3) (bh_good 3 (by rfl))
  rw [bg4, bg5] at A4
  refine A4.mono ?_
  rintro e w5 ⟨rfl, h5⟩
  have HO5 := Lib.hid h5
  clear h5
  go_wp2_with fail
  refine (HO5.out.list (by decide)).mono ?_
  rintro e w6 ⟨v, rfl, ho, hbl⟩
  have HO6 := Lib.hid (HO5.out.below hbl)
  obtain ⟨pv, cv, rfl, _⟩ := own_rd ho
  have HL1 := Lib.hid (HL.of_own ho)
  clear ho hbl A1 A2 A3 A4 C
  go_wp2_with fail
  have hgr := ((Gr.refl w6).alloc (.cells #[.int .i64 5, .int .i64 1, .string ⟨#[]⟩, .int .i64 5, .int .i64 2, .string ⟨#[]⟩] 34))
  have S := same_calls pv (some ⟨w6.heap.size, 0, none⟩) cv 2 [bh 1, bh 2] (by decide) _ (HL1.out.gr hgr) (hl_two w6 (bh 1) (bh 2))
  refine S.mono ?_
  rintro e w7 ⟨rfl, hg7⟩
  have HO7 := Lib.hid ((HO6.out.gr hgr).gr hg7)
  clear hg7 S hgr
  go_wp2
  go_ret
  obtain ⟨_, _, h, _⟩ := HO7.out
  exact ⟨rfl, h⟩
end Go.Proofs.Ytahceakghgmpkaa

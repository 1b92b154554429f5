/-
  WALK: begun: what the laws of sorted files ask first.
-/
import Derived.Test.YtihgjihdmlomaaaDoorJBuA
namespace Go.Proofs.YtihgjihdmlomaaaDoor
open Go.RowKit ArgK
set_option linter.unusedVariables false

theorem esl_two {W : World} {g : Nat} {x y : Ent} (h : W.heap[g]? = some (.cells #[.int .i64 x.v, .string x.c, .int .i64 x.i, .int .i64 x.s, .bool x.d, .int .i64 y.v, .string y.c, .int .i64 y.i, .int .i64 y.s, .bool y.d] 33 (0, 0))) : ESl W (.slice (some ⟨g, 0, none⟩) 2 2) [x, y] := by
  refine ⟨some ⟨g, 0, none⟩, 2, rfl, fun i z hz => ⟨_, rfl, fun k hk => ?_⟩⟩
  rw [add0, cell_of_row W g _ _ _ _ h]
  match i, hz with
  | 0, hz =>
    simp at hz; subst hz
    rcases (show k = 0 ∨ k = 1 ∨ k = 2 ∨ k = 3 ∨ k = 4 by omega) with rfl | rfl | rfl | rfl | rfl <;> rfl
  | 1, hz =>
    simp at hz; subst hz
    rcases (show k = 0 ∨ k = 1 ∨ k = 2 ∨ k = 3 ∨ k = 4 by omega) with rfl | rfl | rfl | rfl | rfl <;> rfl
theorem esl_fst {W : World} {g : Nat} {x y : Ent} (h : W.heap[g]? = some (.cells #[.int .i64 x.v, .string x.c, .int .i64 x.i, .int .i64 x.s, .bool x.d, .int .i64 y.v, .string y.c, .int .i64 y.i, .int .i64 y.s, .bool y.d] 33 (0, 0))) : ESl W (.slice (some ⟨g, 0, none⟩) 1 2) [x] := by
  refine ⟨some ⟨g, 0, none⟩, 2, rfl, fun i z hz => ⟨_, rfl, fun k hk => ?_⟩⟩
  rw [add0, cell_of_row W g _ _ _ _ h]
  match i, hz with
  | 0, hz =>
    simp at hz; subst hz
    rcases (show k = 0 ∨ k = 1 ∨ k = 2 ∨ k = 3 ∨ k = 4 by omega) with rfl | rfl | rfl | rfl | rfl <;> rfl
theorem esl_snd {W : World} {g : Nat} {x y : Ent} (h : W.heap[g]? = some (.cells #[.int .i64 x.v, .string x.c, .int .i64 x.i, .int .i64 x.s, .bool x.d, .int .i64 y.v, .string y.c, .int .i64 y.i, .int .i64 y.s, .bool y.d] 33 (0, 0))) : ESl W (.slice (some ⟨g, 5, none⟩) 1 1) [y] := by
  refine ⟨some ⟨g, 5, none⟩, 1, rfl, fun i z hz => ⟨_, rfl, fun k hk => ?_⟩⟩
  rw [show (⟨g, 5, none⟩ : Addr).add (i * 5 + k) = ⟨g, 5 + (i * 5 + k), none⟩ by unfold Addr.add; split <;> simp_all, cell_of_row W g _ _ _ _ h]
  match i, hz with
  | 0, hz =>
    simp at hz; subst hz
    rcases (show k = 0 ∨ k = 1 ∨ k = 2 ∨ k = 3 ∨ k = 4 by omega) with rfl | rfl | rfl | rfl | rfl <;> rfl

set_option maxRecDepth 100000 in
set_option maxHeartbeats 4000000 in
theorem begun6_calls (w : World) (hT : Tab w) : Calls Tryd.prog 20 #[] w fun e w' => e = .returned (.bool true) ∧ Below w.heap.size w w' := by
  have C1 : ∀ W, Calls Tryd.prog 50 #[.int .u8 97] W fun e w' => e = .returned (.string (lettersB 97)) ∧ Below W.heap.size W w' := fun W => letters_calls 97 W
  have C2 : ∀ W, Calls Tryd.prog 50 #[.int .u8 98] W fun e w' => e = .returned (.string (lettersB 98)) ∧ Below W.heap.size W w' := fun W => letters_calls 98 W
  obtain ⟨la, hla⟩ : ∃ b, lettersB 97 = b := ⟨_, rfl⟩
  obtain ⟨lb, hlb⟩ : ∃ b, lettersB 98 = b := ⟨_, rfl⟩
  have hA : bgA = ⟨1, la, 5, 2, false⟩ := by rw [← hla]; rfl
  have hBB : bgB = ⟨3, lb, 4, 1, true⟩ := by rw [← hlb]; rfl
  have hsa : la.size = 8 := by rw [← hla]; rfl
  have hsb : lb.size = 8 := by rw [← hlb]; rfl
  have hgo : goesR ⟨64, 0, 8, 0, 9, 0⟩ [bgA, bgB] = 0 := bg_goes
  have hno : goesR ⟨64, 0, 8, 0, 9, 0⟩ [bgB, bgA] = 50 := bg_not
  have hfi := bg_find
  have hfr := bg_from
  rw [hla] at C1
  rw [hlb] at C2
  rw [hA, hBB] at hgo hno hfi hfr
  have HGo := Lib.hid hgo
  have HNo := Lib.hid hno
  have HFi := Lib.hid hfi
  have HFr := Lib.hid hfr
  have HC1 := Lib.hid C1
  have HC2 := Lib.hid C2
  have HT := Lib.hid hT
  have hbe : ∀ (W : World), (Instr.build 33 #[(0, .int .i64 1), (1, .string la), (2, .int .i64 5), (3, .int .i64 2)]).run Tryd.prog W = .ok (.agg #[.int .i64 1, .string la, .int .i64 5, .int .i64 2, .bool false]) W := fun W => run_build W _ _ _ (by kernel_rfl)
  have hbe2 : ∀ (W : World), (Instr.build 33 #[(0, .int .i64 3), (1, .string lb), (2, .int .i64 4), (3, .int .i64 1), (4, .bool true)]).run Tryd.prog W = .ok (.agg #[.int .i64 3, .string lb, .int .i64 4, .int .i64 1, .bool true]) W := fun W => run_build W _ _ _ (by kernel_rfl)
  have hbh : ∀ (W : World), (Instr.build 23 #[(0, .int .i64 64), (2, .int .i64 8), (4, .int .i64 9)]).run Tryd.prog W = .ok (.agg #[.int .i64 64, .int .i64 0, .int .i64 8, .int .i64 0, .int .i64 9, .int .i64 0]) W := fun W => run_build W _ _ _ (by kernel_rfl)
  clear C1 C2 hA hBB hla hlb hgo hno hfi hfr hT
  go_enter Tryd.func20, Tryd.ntmps20
  go_wp2_with fail
  refine (HC1.out _).mono ?_
  rintro e w1 ⟨rfl, hb1⟩
  have HB1 := Lib.hid hb1
  clear hb1
  go_wp2_with fail
  refine (HC2.out _).mono ?_
  rintro e w2 ⟨rfl, hb2⟩
  have HB2 : Hid (Below w.heap.size w w2) := Lib.hid (HB1.out.trans (hb2.mono HB1.out.size))
  have HB3 : Hid (Below w.heap.size w (w2.alloc (.cells #[.int .i64 1, .string la, .int .i64 5, .int .i64 2, .bool false, .int .i64 3, .string lb, .int .i64 4, .int .i64 1, .bool true] 33))) := Lib.hid (HB2.out.alloc HB2.out.size _)
  have hE3 : EL (w2.alloc (.cells #[.int .i64 1, .string la, .int .i64 5, .int .i64 2, .bool false, .int .i64 3, .string lb, .int .i64 4, .int .i64 1, .bool true] 33)) (w2.heap.size + 1) (some ⟨w2.heap.size, 0, none⟩) [⟨1, la, 5, 2, false⟩, ⟨3, lb, 4, 1, true⟩] := el_two w2 ⟨1, la, 5, 2, false⟩ ⟨3, lb, 4, 1, true⟩
  have hsz3 : (w2.alloc (.cells #[.int .i64 1, .string la, .int .i64 5, .int .i64 2, .bool false, .int .i64 3, .string lb, .int .i64 4, .int .i64 1, .bool true] 33)).heap.size = w2.heap.size + 1 := by simp
  have CB3 := Build_calls ⟨64, 0, 8, 0, 9, 0⟩ (some ⟨w2.heap.size, 0, none⟩) 2 2 [⟨1, la, 5, 2, false⟩, ⟨3, lb, 4, 1, true⟩] rfl (by decide) (by decide) (fun e he => by
    simp only [List.mem_cons, List.not_mem_nil, or_false] at he
    rcases he with rfl | rfl <;> simp only <;> omega) _ (HT.out.below HB3.out) (hE3.mono (by rw [hsz3]; exact Nat.le_refl _))
  have hbt : builtR ⟨64, 0, 8, 0, 9, 0⟩ [⟨1, la, 5, 2, false⟩, ⟨3, lb, 4, 1, true⟩] = (fileB ⟨64, 0, 8, 0, 9, 0⟩ [⟨1, la, 5, 2, false⟩, ⟨3, lb, 4, 1, true⟩], 0) := by unfold builtR; rw [if_pos HGo.out]
  rw [hbt] at CB3
  unfold Hd.val BuildPost at CB3
  have CO := fun W hW => Open_built (h := ⟨64, 0, 8, 0, 9, 0⟩) (l := [⟨1, la, 5, 2, false⟩, ⟨3, lb, 4, 1, true⟩]) HGo.out W hW
  obtain ⟨S, hS⟩ : ∃ S, (⟨(fileB ⟨64, 0, 8, 0, 9, 0⟩ [⟨1, la, 5, 2, false⟩, ⟨3, lb, 4, 1, true⟩]).toArray⟩ : ByteArray) = S := ⟨_, rfl⟩
  simp only [hS] at CB3 CO
  have HCB3 := Lib.hid CB3
  have HCO := Lib.hid CO
  have HE3 := Lib.hid hE3
  clear CB3 CO hE3 hS hbt hb2
  go_wp2_with fail
  refine HCB3.out.mono ?_
  rintro e w4 ⟨rfl, hb4⟩
  have HB4 : Hid (Below w.heap.size w w4) := Lib.hid (HB3.out.trans (hb4.mono HB3.out.size))
  have hE4 := HE3.out.below hb4 (by rw [hsz3]; exact Nat.le_refl _)
  have HE4 := Lib.hid hE4
  have hs4 := hb4.size
  rw [hsz3] at hs4
  have HB34 := Lib.hid hb4
  clear hb4 hE4
  go_wp2_with fail
  refine (HCO.out w4 (HT.out.below HB4.out)).mono ?_
  rintro e w5 ⟨fb, rfl, hF5, hfb5, hb5⟩
  have HB5 : Hid (Below w.heap.size w w5) := Lib.hid (HB4.out.trans (hb5.mono HB4.out.size))
  have HE5 := Lib.hid (HE4.out.below hb5 hs4)
  have HF5 := Lib.hid hF5
  have hs5 := hb5.size
  have hG3 := World.alloc_heap_new w2 (.cells #[.int .i64 1, .string la, .int .i64 5, .int .i64 2, .bool false, .int .i64 3, .string lb, .int .i64 4, .int .i64 1, .bool true] 33)
  have hG5 : w5.heap[w2.heap.size]? = some (.cells #[.int .i64 1, .string la, .int .i64 5, .int .i64 2, .bool false, .int .i64 3, .string lb, .int .i64 4, .int .i64 1, .bool true] 33 (0, 0)) := (hb5.block _ (by omega)).trans ((HB34.out.block _ (by rw [hsz3]; omega)).trans hG3)
  have hF50 : FileAt w5 w4.heap.size fb ⟨64, 0, 8, 0, 9, 2⟩ [⟨1, la, 5, 2, false⟩, ⟨3, lb, 4, 1, true⟩] ((0 : Nat) : Int) := hF5
  have hgn : goesR ⟨64, 0, 8, 0, 9, 2⟩ [⟨1, la, 5, 2, false⟩, ⟨3, lb, 4, 1, true⟩] = 0 := HGo.out
  have HGn := Lib.hid hgn
  have HF5 := Lib.hid hF50
  obtain ⟨g, hg⟩ : ∃ g, w2.heap.size = g := ⟨_, rfl⟩
  have hfg : fb ≠ g := by omega
  rw [hg] at hG5
  clear hb5 hF5 hF50 hgn hG3
  have HGb : Hid (∀ A B : World, A.heap[g]? = some (.cells #[.int .i64 1, .string la, .int .i64 5, .int .i64 2, .bool false, .int .i64 3, .string lb, .int .i64 4, .int .i64 1, .bool true] 33 (0, 0)) → Below A.heap.size A B → B.heap[g]? = some (.cells #[.int .i64 1, .string la, .int .i64 5, .int .i64 2, .bool false, .int .i64 3, .string lb, .int .i64 4, .int .i64 1, .bool true] 33 (0, 0))) := Lib.hid (fun A B hA hb => (hb.block g (Array.getElem?_eq_some_iff.1 hA).1).trans hA)
  have HGg : Hid (∀ A B : World, A.heap[g]? = some (.cells #[.int .i64 1, .string la, .int .i64 5, .int .i64 2, .bool false, .int .i64 3, .string lb, .int .i64 4, .int .i64 1, .bool true] 33 (0, 0)) → A.grownBy B (some fb) → B.heap[g]? = some (.cells #[.int .i64 1, .string la, .int .i64 5, .int .i64 2, .bool false, .int .i64 3, .string lb, .int .i64 4, .int .i64 1, .bool true] 33 (0, 0))) := Lib.hid (fun A B hA hb => (hb.block g (Array.getElem?_eq_some_iff.1 hA).1 (fun e => hfg (Option.some.inj e.symm))).trans hA)
  have HG5 := Lib.hid hG5
  have HS : Hid (∀ W : World, W.heap[g]? = some (.cells #[.int .i64 1, .string la, .int .i64 5, .int .i64 2, .bool false, .int .i64 3, .string lb, .int .i64 4, .int .i64 1, .bool true] 33 (0, 0)) → W.cell? ⟨g, 0, none⟩ = some (.int .i64 1) ∧ W.cell? ⟨g, 1, none⟩ = some (.string la) ∧ W.cell? ⟨g, 2, none⟩ = some (.int .i64 5) ∧ W.cell? ⟨g, 3, none⟩ = some (.int .i64 2) ∧ W.cell? ⟨g, 4, none⟩ = some (.bool false) ∧ W.cell? ⟨g, 5, none⟩ = some (.int .i64 3) ∧ W.cell? ⟨g, 6, none⟩ = some (.string lb) ∧ W.cell? ⟨g, 7, none⟩ = some (.int .i64 4) ∧ W.cell? ⟨g, 8, none⟩ = some (.int .i64 1) ∧ W.cell? ⟨g, 9, none⟩ = some (.bool true)) := Lib.hid (fun W hW => ⟨(arr_cell hW rfl).1, (arr_cell hW rfl).1, (arr_cell hW rfl).1, (arr_cell hW rfl).1, (arr_cell hW rfl).1, (arr_cell hW rfl).1, (arr_cell hW rfl).1, (arr_cell hW rfl).1, (arr_cell hW rfl).1, (arr_cell hW rfl).1⟩)
  have HL0 : Hid (∀ W : World, W.heap[g]? = some (.cells #[.int .i64 1, .string la, .int .i64 5, .int .i64 2, .bool false, .int .i64 3, .string lb, .int .i64 4, .int .i64 1, .bool true] 33 (0, 0)) → ESl W (.slice (some ⟨g, 0, none⟩) 2 2) [⟨1, la, 5, 2, false⟩, ⟨3, lb, 4, 1, true⟩]) := Lib.hid (fun W hW => esl_two (x := ⟨1, la, 5, 2, false⟩) (y := ⟨3, lb, 4, 1, true⟩) hW)
  have HL1 : Hid (∀ W : World, W.heap[g]? = some (.cells #[.int .i64 1, .string la, .int .i64 5, .int .i64 2, .bool false, .int .i64 3, .string lb, .int .i64 4, .int .i64 1, .bool true] 33 (0, 0)) → ESl W (.slice (some ⟨g, 5, none⟩) 1 1) [⟨3, lb, 4, 1, true⟩]) := Lib.hid (fun W hW => esl_snd (x := ⟨1, la, 5, 2, false⟩) (y := ⟨3, lb, 4, 1, true⟩) hW)
  have HL2 : Hid (∀ W : World, W.heap[g]? = some (.cells #[.int .i64 1, .string la, .int .i64 5, .int .i64 2, .bool false, .int .i64 3, .string lb, .int .i64 4, .int .i64 1, .bool true] 33 (0, 0)) → ESl W (.slice (some ⟨g, 0, none⟩) 1 2) [⟨1, la, 5, 2, false⟩]) := Lib.hid (fun W hW => esl_fst (x := ⟨1, la, 5, 2, false⟩) (y := ⟨3, lb, 4, 1, true⟩) hW)
  have HCN : Hid (∀ X : World, Below w.heap.size w X → Calls Tryd.prog 12 #[.agg #[.int .i64 64, .int .i64 0, .int .i64 8, .int .i64 0, .int .i64 9, .int .i64 0], .slice (some ⟨X.heap.size, 0, none⟩) 2 2] (X.alloc (.cells #[.int .i64 3, .string lb, .int .i64 4, .int .i64 1, .bool true, .int .i64 1, .string la, .int .i64 5, .int .i64 2, .bool false] 33)) fun e w' => e = .returned (.tuple #[.string ⟨#[]⟩, .int .i64 50]) ∧ Below X.heap.size X w') := Lib.hid (fun X hX => by
    have hE := el_two X ⟨3, lb, 4, 1, true⟩ ⟨1, la, 5, 2, false⟩
    have CB := Build_calls ⟨64, 0, 8, 0, 9, 0⟩ (some ⟨X.heap.size, 0, none⟩) 2 2 [⟨3, lb, 4, 1, true⟩, ⟨1, la, 5, 2, false⟩] rfl (by decide) (by decide) (fun e he => by
      simp only [List.mem_cons, List.not_mem_nil, or_false] at he
      rcases he with rfl | rfl <;> simp only <;> omega) _ (HT.out.below (hX.alloc hX.size _)) (hE.mono (by simp))
    have hbt : builtR ⟨64, 0, 8, 0, 9, 0⟩ [⟨3, lb, 4, 1, true⟩, ⟨1, la, 5, 2, false⟩] = ([], 50) := by unfold builtR; rw [if_neg (by rw [HNo.out]; decide), HNo.out]
    rw [hbt] at CB
    refine CB.mono ?_
    rintro e w' ⟨rfl, hb⟩
    exact ⟨rfl, ((Below.refl _ X).alloc (Nat.le_refl _) _).trans (hb.mono (by simp))⟩)
  have hg2 : g < w5.heap.size := (Array.getElem?_eq_some_iff.1 hG5).1
  clear hG5 HE5 HE4 HE3 HCB3 HCO HC1 HC2 HGo HNo HT
  go_wp2_with fail
  go_region_held3 (fun W => W.cell? ⟨g, 0, none⟩ = some (.int .i64 1) ∧ W.cell? ⟨g, 1, none⟩ = some (.string la) ∧ W.cell? ⟨g, 2, none⟩ = some (.int .i64 5) ∧ W.cell? ⟨g, 3, none⟩ = some (.int .i64 2) ∧ W.cell? ⟨g, 4, none⟩ = some (.bool false) ∧ W.cell? ⟨g, 5, none⟩ = some (.int .i64 3) ∧ W.cell? ⟨g, 6, none⟩ = some (.string lb) ∧ W.cell? ⟨g, 7, none⟩ = some (.int .i64 4) ∧ W.cell? ⟨g, 8, none⟩ = some (.int .i64 1) ∧ W.cell? ⟨g, 9, none⟩ = some (.bool true)) (first | exact HS.out _ hG6 | exact HS.out _ HG5.out | exact HS.out _ (HGb.out _ _ HG5.out ((Below.refl _ _).drew.alloc (Nat.le_refl _) _))) (first | (go_at_call 12; refine (HCN.out w5.drew HB5.out.drew).mono ?_; rintro e w6 ⟨rfl, hb6⟩; have hG6 := HGb.out _ _ HG5.out (below_of hb6)))
  have HB6 := Lib.hid (HB5.out.trans ((below_of hb6).mono HB5.out.size))
  have HF6 := Lib.hid (HF5.out.below (below_of hb6))
  have HG6 := Lib.hid hG6
  clear hb6 hG6
  have HGs : Hid (w.heap.size ≤ fb) := Lib.hid (by have := HB4.out.size; omega)
  go_wp2_with fail
  have HS5 : Hid (∀ W : World, W.heap[g]? = some (.cells #[.int .i64 1, .string la, .int .i64 5, .int .i64 2, .bool false, .int .i64 3, .string lb, .int .i64 4, .int .i64 1, .bool true] 33 (0, 0)) → W.cell? ⟨g, 0, none⟩ = some (.int .i64 1) ∧ W.cell? ⟨g, 1, none⟩ = some (.string la) ∧ W.cell? ⟨g, 2, none⟩ = some (.int .i64 5) ∧ W.cell? ⟨g, 3, none⟩ = some (.int .i64 2) ∧ W.cell? ⟨g, 4, none⟩ = some (.bool false)) := Lib.hid (fun W hW => by
    obtain ⟨s0, s1, s2, s3, s4, _⟩ := HS.out W hW
    exact ⟨s0, s1, s2, s3, s4⟩)
  refine wp_region_held_drew (S := (fun W => W.cell? ⟨g, 0, none⟩ = some (.int .i64 1) ∧ W.cell? ⟨g, 1, none⟩ = some (.string la) ∧ W.cell? ⟨g, 2, none⟩ = some (.int .i64 5) ∧ W.cell? ⟨g, 3, none⟩ = some (.int .i64 2) ∧ W.cell? ⟨g, 4, none⟩ = some (.bool false))) (by kernel_rfl) ?_ (fun hHeld => ?_)
  · exact HS5.out w6.drew HG6.out
  refine wpAnyH_take (i := 0) (oi := { dst := some 46, op := Op.move (Operand.tmp 4), type := 36, pos := "plain.go:33", after := #[], guard := none }) (v := ?_) rfl (by kernel_rfl) (by kernel_rfl) (by kernel_rfl) (fun _ _ _ h => h) (Or.inl ⟨by rfl, ?_⟩) (by assumption) ?_
  rotate_left 1
  · intro w hSw
    (try dsimp only at hSw)
    go_simp
    try with_reducible rfl
  (try simp only [Act.put, List.setIfInBounds_toArray, List.set_cons_zero, List.set_cons_succ])
  refine wpAnyH_take (i := 2) (oi := { dst := some 48, op := Op.move (Operand.tmp 1), type := 24, pos := "plain.go:33", after := #[], guard := none }) (v := ?_) rfl (by kernel_rfl) (by kernel_rfl) (by kernel_rfl) (fun _ _ _ h => h) (Or.inl ⟨by rfl, ?_⟩) (by assumption) ?_
  rotate_left 1
  · intro w hSw
    (try dsimp only at hSw)
    go_simp
    try with_reducible rfl
  (try simp only [Act.put, List.setIfInBounds_toArray, List.set_cons_zero, List.set_cons_succ])
  refine wpAnyH_ready (rs := [1]) (by kernel_rfl) (by simp) ?_
  refine AllReadyH.cons (o := { dst := some 47, op := Op.call { callee := Callee.value (Operand.func 24), args := #[Operand.tmp 46], argTypes := #[36] }, type := 24, pos := "plain.go:33", after := #[{ on := 0, ground := Ground.data }], guard := none }) rfl (fun K hK => ?_) ?_
  rotate_left 1
  · exact AllReadyH.nil
  go_simp
  go_at_call 24; refine (All_calls _ fb _ _ _ w6.drew (HF6.out.below (Below.refl _ _).drew) (by simp)).mono ?_; rintro e w7 ⟨v7, rfl, ho7, hb7'⟩
  have hb7 := below_of hb7'
  have HG7 := Lib.hid (HGb.out _ _ HG6.out hb7)
  have HF7 := Lib.hid (HF6.out.below hb7)
  have HO7 := Lib.hid ho7
  have HB7 := Lib.hid (HB6.out.trans (hb7.mono HB6.out.size))
  clear hb7 hb7' ho7
  refine hK.out _ _ ?_ (fun hHeld1 => ?_)
  · exact HS5.out _ HG7.out
  clear hK K
  (try simp only [Act.put, List.setIfInBounds_toArray, List.set_cons_zero, List.set_cons_succ])
  refine wpAnyH_ready (rs := [3]) (by kernel_rfl) (by simp) ?_
  refine AllReadyH.cons (o := { dst := some 49, op := Op.call { callee := Callee.value (Operand.func 14), args := #[Operand.tmp 47, Operand.tmp 48], argTypes := #[24, 24] }, type := 4, pos := "plain.go:33", after := #[{ on := 1, ground := Ground.data }, { on := 2, ground := Ground.data }, { on := 1, ground := Ground.chain }], guard := none }) rfl (fun K hK => ?_) ?_
  rotate_left 1
  · exact AllReadyH.nil
  go_simp
  go_at_call 14; refine (sameE_true v7 (.slice (some ⟨g, 0, none⟩) 2 2) [⟨1, la, 5, 2, false⟩, ⟨3, lb, 4, 1, true⟩] (by simp) w7 (ESl.of_own HO7.out) (HL0.out _ HG7.out)).mono ?_; rintro e w8 ⟨rfl, hb8⟩
  have HG8 := Lib.hid (HGb.out _ _ HG7.out hb8)
  have HF8 := Lib.hid (HF7.out.below hb8)
  have HB8 := Lib.hid (HB7.out.trans (hb8.mono HB7.out.size))
  clear hb8
  refine hK.out _ _ ?_ (fun hHeld3 => ?_)
  · exact HS5.out _ HG8.out
  clear hK K
  (try simp only [Act.put, List.setIfInBounds_toArray, List.set_cons_zero, List.set_cons_succ])
  refine wpAnyH_take (i := 4) (oi := { dst := some 50, op := Op.move (Operand.tmp 49), type := 4, pos := "plain.go:33", after := #[{ on := 3, ground := Ground.data }, { on := 3, ground := Ground.chain }], guard := none }) (v := ?_) rfl (by kernel_rfl) (by kernel_rfl) (by kernel_rfl) (fun _ _ _ h => h) (Or.inl ⟨by rfl, ?_⟩) (by assumption) ?_
  rotate_left 1
  · intro w hSw
    (try dsimp only at hSw)
    go_simp
    try with_reducible rfl
  (try simp only [Act.put, List.setIfInBounds_toArray, List.set_cons_zero, List.set_cons_succ])
  refine wpAnyH_take (i := 5) (oi := { dst := some 51, op := Op.move (Operand.tmp 4), type := 36, pos := "plain.go:33", after := #[{ on := 4, ground := Ground.guard }], guard := some (4, true) }) (v := ?_) rfl (by kernel_rfl) (by kernel_rfl) (by kernel_rfl) (fun _ _ _ h => h) (Or.inl ⟨by rfl, ?_⟩) (by assumption) ?_
  rotate_left 1
  · intro w hSw
    (try dsimp only at hSw)
    go_simp
    try with_reducible rfl
  (try simp only [Act.put, List.setIfInBounds_toArray, List.set_cons_zero, List.set_cons_succ])
  refine wpAnyH_take (i := 7) (oi := { dst := some 53, op := Op.move (Operand.tmp 1), type := 24, pos := "plain.go:33", after := #[{ on := 4, ground := Ground.guard }], guard := some (4, true) }) (v := ?_) rfl (by kernel_rfl) (by kernel_rfl) (by kernel_rfl) (fun _ _ _ h => h) (Or.inl ⟨by rfl, ?_⟩) (by assumption) ?_
  rotate_left 1
  · intro w hSw
    (try dsimp only at hSw)
    go_simp
    try with_reducible rfl
  (try simp only [Act.put, List.setIfInBounds_toArray, List.set_cons_zero, List.set_cons_succ])
  refine wpAnyH_take (i := 8) (oi := { dst := some 54, op := Op.slice 24 (Operand.tmp 53) (some (Operand.const (Value.int IntKind.i64 1))) none none, type := 24, pos := "plain.go:33", after := #[{ on := 7, ground := Ground.data }, { on := 4, ground := Ground.guard }], guard := some (4, true) }) (v := ?_) rfl (by kernel_rfl) (by kernel_rfl) (by kernel_rfl) (fun _ _ _ h => h) (Or.inl ⟨by rfl, ?_⟩) (by assumption) ?_
  rotate_left 1
  · intro w hSw
    (try dsimp only at hSw)
    go_simp
    try with_reducible rfl
  (try simp only [Act.put, List.setIfInBounds_toArray, List.set_cons_zero, List.set_cons_succ])
  refine wpAnyH_ready (rs := [6]) (by kernel_rfl) (by simp) ?_
  refine AllReadyH.cons (o := { dst := some 52, op := Op.call { callee := Callee.value (Operand.func 21), args := #[Operand.tmp 51, Operand.const (Value.int IntKind.i64 3)], argTypes := #[36, 3] }, type := 24, pos := "plain.go:33", after := #[{ on := 5, ground := Ground.data }, { on := 4, ground := Ground.chain }, { on := 4, ground := Ground.guard }], guard := some (4, true) }) rfl (fun K hK => ?_) ?_
  rotate_left 1
  · exact AllReadyH.nil
  go_simp
  go_at_call 21; refine (Find_law _ fb _ _ 0 3 w8 HF8.out HGn.out (by decide)).mono ?_; rintro e w9 ⟨v9, r9, rfl, ho9, hF9, hg9, _, _, hr9, _⟩
  rw [HFi.out] at ho9
  have HG9 := Lib.hid (HGg.out _ _ HG8.out hg9)
  have HF9 := Lib.hid hF9
  have HO9 := Lib.hid ho9
  have HR9 := Lib.hid hr9
  have HB9 := Lib.hid (below_file HB8.out hg9 HGs.out)
  clear ho9 hF9 hg9 hr9
  refine hK.out _ _ ?_ (fun hHeld6 => ?_)
  · exact HS5.out _ HG9.out
  clear hK K
  (try simp only [Act.put, List.setIfInBounds_toArray, List.set_cons_zero, List.set_cons_succ])
  refine wpAnyH_ready (rs := [9]) (by kernel_rfl) (by simp) ?_
  refine AllReadyH.cons (o := { dst := some 55, op := Op.call { callee := Callee.value (Operand.func 14), args := #[Operand.tmp 52, Operand.tmp 54], argTypes := #[24, 24] }, type := 4, pos := "plain.go:33", after := #[{ on := 6, ground := Ground.data }, { on := 8, ground := Ground.data }, { on := 6, ground := Ground.chain }, { on := 4, ground := Ground.guard }], guard := some (4, true) }) rfl (fun K hK => ?_) ?_
  rotate_left 1
  · exact AllReadyH.nil
  go_simp
  go_at_call 14; refine (sameE_true v9 (.slice (some ⟨g, 5, none⟩) 1 1) [⟨3, lb, 4, 1, true⟩] (by simp) w9 (ESl.of_own HO9.out) (HL1.out _ HG9.out)).mono ?_; rintro e w10 ⟨rfl, hb10⟩
  have HG10 := Lib.hid (HGb.out _ _ HG9.out hb10)
  have HF10 := Lib.hid (HF9.out.below hb10)
  have HB10 := Lib.hid (HB9.out.trans (hb10.mono HB9.out.size))
  clear hb10
  refine hK.out _ _ ?_ (fun hHeld9 => ?_)
  · exact HS5.out _ HG10.out
  clear hK K
  (try simp only [Act.put, List.setIfInBounds_toArray, List.set_cons_zero, List.set_cons_succ])
  refine wpAnyH_take (i := 10) (oi := { dst := some 56, op := Op.pick (Operand.tmp 50) (Operand.tmp 55) (Operand.const (Value.bool false)), type := 4, pos := "plain.go:33", after := #[{ on := 4, ground := Ground.data }, { on := 9, ground := Ground.data }], guard := none }) (v := ?_) rfl (by kernel_rfl) (by kernel_rfl) (by kernel_rfl) (fun _ _ _ h => h) (Or.inl ⟨by rfl, ?_⟩) (by assumption) ?_
  rotate_left 1
  · intro w hSw
    (try dsimp only at hSw)
    go_simp
    try with_reducible rfl
  (try simp only [Act.put, List.setIfInBounds_toArray, List.set_cons_zero, List.set_cons_succ])
  refine wpAnyH_take (i := 11) (oi := { dst := some 57, op := Op.move (Operand.tmp 56), type := 4, pos := "plain.go:33", after := #[{ on := 10, ground := Ground.data }, { on := 9, ground := Ground.chain }], guard := none }) (v := ?_) rfl (by kernel_rfl) (by kernel_rfl) (by kernel_rfl) (fun _ _ _ h => h) (Or.inl ⟨by rfl, ?_⟩) (by assumption) ?_
  rotate_left 1
  · intro w hSw
    (try dsimp only at hSw)
    go_simp
    try with_reducible rfl
  (try simp only [Act.put, List.setIfInBounds_toArray, List.set_cons_zero, List.set_cons_succ])
  refine wpAnyH_take (i := 12) (oi := { dst := some 58, op := Op.move (Operand.tmp 4), type := 36, pos := "plain.go:33", after := #[{ on := 11, ground := Ground.guard }], guard := some (11, true) }) (v := ?_) rfl (by kernel_rfl) (by kernel_rfl) (by kernel_rfl) (fun _ _ _ h => h) (Or.inl ⟨by rfl, ?_⟩) (by assumption) ?_
  rotate_left 1
  · intro w hSw
    (try dsimp only at hSw)
    go_simp
    try with_reducible rfl
  (try simp only [Act.put, List.setIfInBounds_toArray, List.set_cons_zero, List.set_cons_succ])
  refine wpAnyH_take (i := 13) (oi := { dst := some 59, op := Op.move (Operand.tmp 1), type := 24, pos := "plain.go:33", after := #[{ on := 11, ground := Ground.guard }], guard := some (11, true) }) (v := ?_) rfl (by kernel_rfl) (by kernel_rfl) (by kernel_rfl) (fun _ _ _ h => h) (Or.inl ⟨by rfl, ?_⟩) (by assumption) ?_
  rotate_left 1
  · intro w hSw
    (try dsimp only at hSw)
    go_simp
    try with_reducible rfl
  (try simp only [Act.put, List.setIfInBounds_toArray, List.set_cons_zero, List.set_cons_succ])
  refine wpAnyH_take (i := 14) (oi := { dst := some 60, op := Op.indexAddr 24 (Operand.tmp 59) (Operand.const (Value.int IntKind.i64 0)), type := 0, pos := "plain.go:33", after := #[{ on := 13, ground := Ground.data }, { on := 11, ground := Ground.guard }], guard := some (11, true) }) (v := ?_) rfl (by kernel_rfl) (by kernel_rfl) (by kernel_rfl) (fun _ _ _ h => h) (Or.inl ⟨by rfl, ?_⟩) (by assumption) ?_
  rotate_left 1
  · intro w hSw
    (try dsimp only at hSw)
    go_simp
    try with_reducible rfl
  (try simp only [Act.put, List.setIfInBounds_toArray, List.set_cons_zero, List.set_cons_succ])
  refine wpAnyH_take (i := 15) (oi := { dst := some 61, op := Op.load 33 (Operand.tmp 60), type := 33, pos := "plain.go:33", after := #[{ on := 14, ground := Ground.data }, { on := 11, ground := Ground.guard }], guard := some (11, true) }) (v := ?_) rfl (by kernel_rfl) (by kernel_rfl) (by kernel_rfl) (fun _ _ _ h => h) (Or.inl ⟨by rfl, ?_⟩) (by assumption) ?_
  rotate_left 1
  · intro w hSw
    (try dsimp only at hSw)
    go_simp
    try with_reducible rfl
  (try simp only [Act.put, List.setIfInBounds_toArray, List.set_cons_zero, List.set_cons_succ])
  refine wpAnyH_take (i := 17) (oi := { dst := some 63, op := Op.move (Operand.tmp 1), type := 24, pos := "plain.go:33", after := #[{ on := 11, ground := Ground.guard }], guard := some (11, true) }) (v := ?_) rfl (by kernel_rfl) (by kernel_rfl) (by kernel_rfl) (fun _ _ _ h => h) (Or.inl ⟨by rfl, ?_⟩) (by assumption) ?_
  rotate_left 1
  · intro w hSw
    (try dsimp only at hSw)
    go_simp
    try with_reducible rfl
  (try simp only [Act.put, List.setIfInBounds_toArray, List.set_cons_zero, List.set_cons_succ])
  refine wpAnyH_take (i := 18) (oi := { dst := some 64, op := Op.slice 24 (Operand.tmp 63) none (some (Operand.const (Value.int IntKind.i64 1))) none, type := 24, pos := "plain.go:33", after := #[{ on := 17, ground := Ground.data }, { on := 11, ground := Ground.guard }], guard := some (11, true) }) (v := ?_) rfl (by kernel_rfl) (by kernel_rfl) (by kernel_rfl) (fun _ _ _ h => h) (Or.inl ⟨by rfl, ?_⟩) (by assumption) ?_
  rotate_left 1
  · intro w hSw
    (try dsimp only at hSw)
    go_simp
    try with_reducible rfl
  (try simp only [Act.put, List.setIfInBounds_toArray, List.set_cons_zero, List.set_cons_succ])
  refine wpAnyH_ready (rs := [16]) (by kernel_rfl) (by simp) ?_
  refine AllReadyH.cons (o := { dst := some 62, op := Op.call { callee := Callee.value (Operand.func 23), args := #[Operand.tmp 58, Operand.tmp 61, Operand.const (Value.int IntKind.i64 1)], argTypes := #[36, 33, 3] }, type := 24, pos := "plain.go:33", after := #[{ on := 12, ground := Ground.data }, { on := 15, ground := Ground.data }, { on := 11, ground := Ground.chain }, { on := 11, ground := Ground.guard }], guard := some (11, true) }) rfl (fun K hK => ?_) ?_
  rotate_left 1
  · exact AllReadyH.nil
  go_simp
  go_at_call 23; refine (From_law _ fb _ _ r9 ⟨1, la, 5, 2, false⟩ 1 (by decide) w10 HF10.out HGn.out (by have := HR9.out; omega)).mono ?_; rintro e w11 ⟨v11, r11, rfl, ho11, hF11, hg11, _⟩
  rw [HFr.out] at ho11
  have HG11 := Lib.hid (HGg.out _ _ HG10.out hg11)
  have HO11 := Lib.hid ho11
  have HB11 := Lib.hid (below_file HB10.out hg11 HGs.out)
  clear ho11 hF11 hg11
  refine hK.out _ _ ?_ (fun hHeld16 => ?_)
  · exact HS5.out _ HG11.out
  clear hK K
  (try simp only [Act.put, List.setIfInBounds_toArray, List.set_cons_zero, List.set_cons_succ])
  refine wpAnyH_ready (rs := [19]) (by kernel_rfl) (by simp) ?_
  refine AllReadyH.cons (o := { dst := some 65, op := Op.call { callee := Callee.value (Operand.func 14), args := #[Operand.tmp 62, Operand.tmp 64], argTypes := #[24, 24] }, type := 4, pos := "plain.go:33", after := #[{ on := 16, ground := Ground.data }, { on := 18, ground := Ground.data }, { on := 16, ground := Ground.chain }, { on := 11, ground := Ground.guard }], guard := some (11, true) }) rfl (fun K hK => ?_) ?_
  rotate_left 1
  · exact AllReadyH.nil
  go_simp
  go_at_call 14; refine (sameE_true v11 (.slice (some ⟨g, 0, none⟩) 1 2) [⟨1, la, 5, 2, false⟩] (by simp) w11 (ESl.of_own HO11.out) (HL2.out _ HG11.out)).mono ?_; rintro e w12 ⟨rfl, hb12⟩
  have HG12 := Lib.hid (HGb.out _ _ HG11.out hb12)
  have HB12 := Lib.hid (HB11.out.trans (hb12.mono HB11.out.size))
  clear hb12
  refine hK.out _ _ ?_ (fun hHeld19 => ?_)
  · exact HS5.out _ HG12.out
  clear hK K
  (try simp only [Act.put, List.setIfInBounds_toArray, List.set_cons_zero, List.set_cons_succ])
  refine wpAnyH_take (i := 20) (oi := { dst := some 66, op := Op.pick (Operand.tmp 57) (Operand.tmp 65) (Operand.const (Value.bool false)), type := 4, pos := "plain.go:33", after := #[{ on := 11, ground := Ground.data }, { on := 19, ground := Ground.data }], guard := none }) (v := ?_) rfl (by kernel_rfl) (by kernel_rfl) (by kernel_rfl) (fun _ _ _ h => h) (Or.inl ⟨by rfl, ?_⟩) (by assumption) ?_
  rotate_left 1
  · intro w hSw
    (try dsimp only at hSw)
    go_simp
    try with_reducible rfl
  (try simp only [Act.put, List.setIfInBounds_toArray, List.set_cons_zero, List.set_cons_succ])
  refine wpAnyH_take (i := 21) (oi := { dst := some 67, op := Op.move (Operand.tmp 66), type := 4, pos := "plain.go:33", after := #[{ on := 20, ground := Ground.data }, { on := 19, ground := Ground.chain }], guard := none }) (v := ?_) rfl (by kernel_rfl) (by kernel_rfl) (by kernel_rfl) (fun _ _ _ h => h) (Or.inl ⟨by rfl, ?_⟩) (by assumption) ?_
  rotate_left 1
  · intro w hSw
    (try dsimp only at hSw)
    go_simp
    try with_reducible rfl
  (try simp only [Act.put, List.setIfInBounds_toArray, List.set_cons_zero, List.set_cons_succ])
  refine wpAnyH_take (i := 22) (oi := { dst := some 68, op := Op.move (Operand.tmp 7), type := 26, pos := "plain.go:33", after := #[{ on := 21, ground := Ground.guard }], guard := some (21, true) }) (v := ?_) rfl (by kernel_rfl) (by kernel_rfl) (by kernel_rfl) (fun _ _ _ h => h) (Or.inl ⟨by rfl, ?_⟩) (by assumption) ?_
  rotate_left 1
  · intro w hSw
    (try dsimp only at hSw)
    go_simp
    try with_reducible rfl
  (try simp only [Act.put, List.setIfInBounds_toArray, List.set_cons_zero, List.set_cons_succ])
  refine wpAnyH_take (i := 23) (oi := { dst := some 69, op := Op.binOp BinOp.eql 26 (Operand.tmp 68) (Operand.const (Value.int IntKind.i64 50)) 26, type := 4, pos := "plain.go:33", after := #[{ on := 22, ground := Ground.data }, { on := 21, ground := Ground.guard }], guard := some (21, true) }) (v := ?_) rfl (by kernel_rfl) (by kernel_rfl) (by kernel_rfl) (fun _ _ _ h => h) (Or.inl ⟨by rfl, ?_⟩) (by assumption) ?_
  rotate_left 1
  · intro w hSw
    (try dsimp only at hSw)
    go_simp
    try with_reducible rfl
  (try simp only [Act.put, List.setIfInBounds_toArray, List.set_cons_zero, List.set_cons_succ])
  refine wpAnyH_take (i := 24) (oi := { dst := some 70, op := Op.pick (Operand.tmp 67) (Operand.tmp 69) (Operand.const (Value.bool false)), type := 4, pos := "plain.go:33", after := #[{ on := 21, ground := Ground.data }, { on := 23, ground := Ground.data }], guard := none }) (v := ?_) rfl (by kernel_rfl) (by kernel_rfl) (by kernel_rfl) (fun _ _ _ h => h) (Or.inl ⟨by rfl, ?_⟩) (by assumption) ?_
  rotate_left 1
  · intro w hSw
    (try dsimp only at hSw)
    go_simp
    try with_reducible rfl
  (try simp only [Act.put, List.setIfInBounds_toArray, List.set_cons_zero, List.set_cons_succ])
  refine wpAnyH_take (i := 25) (oi := { dst := some 0, op := Op.assign (Operand.tmp 70), type := 4, pos := "plain.go:33", after := #[{ on := 24, ground := Ground.data }, { on := 21, ground := Ground.chain }, { on := 0, ground := Ground.phase }, { on := 1, ground := Ground.phase }, { on := 2, ground := Ground.phase }, { on := 3, ground := Ground.phase }, { on := 4, ground := Ground.phase }, { on := 5, ground := Ground.phase }, { on := 6, ground := Ground.phase }, { on := 7, ground := Ground.phase }, { on := 8, ground := Ground.phase }, { on := 9, ground := Ground.phase }, { on := 10, ground := Ground.phase }, { on := 11, ground := Ground.phase }, { on := 12, ground := Ground.phase }, { on := 13, ground := Ground.phase }, { on := 14, ground := Ground.phase }, { on := 15, ground := Ground.phase }, { on := 16, ground := Ground.phase }, { on := 17, ground := Ground.phase }, { on := 18, ground := Ground.phase }, { on := 19, ground := Ground.phase }, { on := 20, ground := Ground.phase }, { on := 21, ground := Ground.phase }, { on := 22, ground := Ground.phase }, { on := 23, ground := Ground.phase }, { on := 24, ground := Ground.phase }], guard := none }) (v := ?_) rfl (by kernel_rfl) (by kernel_rfl) (by kernel_rfl) (fun _ _ _ h => h) (Or.inl ⟨by rfl, ?_⟩) (by assumption) ?_
  rotate_left 1
  · intro w hSw
    (try dsimp only at hSw)
    go_simp
    try with_reducible rfl
  (try simp only [Act.put, List.setIfInBounds_toArray, List.set_cons_zero])
  refine wpAnyH_done (by kernel_rfl) ?_ _
  go_wp2
  go_ret
  exact ⟨rfl, HB12.out⟩
end Go.Proofs.YtihgjihdmlomaaaDoor

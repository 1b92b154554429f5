/-
  THE LAW BlockBack.
-/
import Derived.Test.YtihgjihdmlomaaaDoorJBvC
namespace Go.Proofs.YtihgjihdmlomaaaDoor
open Go.RowKit ArgK
set_option linter.unusedVariables false

set_option maxRecDepth 100000 in
set_option maxHeartbeats 8000000 in
theorem BlockBack_walk (sa0 : Array Value) (h : Hd) (v1 : Value) (z : List Ent) (b : ByteArray) (sb : b.size ≤ 140737488351232) (w : World) (h0 : IsHd sa0.toList h) (h1 : IsSl w 5 48 IsEnt [v1] z) (hL : TabLaid w) (hbulk : b.size ≤ 1048576) :
    Calls Tryd.prog 8 #[.agg sa0, v1, .string b] w fun e w' => e = .returned (.bool true) ∧ Below w.heap.size w w' := by
  obtain rfl := hd_arg h0
  obtain ⟨p, c, rfl, hp, hnc, hm, hE, hcs⟩ := el_arg h1
  have hT := tab_of_laid hL
  obtain ⟨n, hn⟩ : ∃ n, z.length = n := ⟨_, rfl⟩
  rw [hn] at hp hnc hm ⊢
  obtain ⟨W0, hW0⟩ : ∃ W0, w.alloc (.cells #[.int .i64 h.w, .int .i64 h.t, .int .i64 h.b, .int .i64 h.lo, .int .i64 h.hi, .int .i64 h.n] 23) = W0 := ⟨_, rfl⟩
  have hb0 : Below w.heap.size w W0 := by rw [← hW0]; exact (Below.refl _ w).alloc (Nat.le_refl _) _
  have hsz0 : W0.heap.size = w.heap.size + 1 := by rw [← hW0]; simp
  have hx0 : W0.heap[w.heap.size]? = some (.cells #[.int .i64 h.w, .int .i64 h.t, .int .i64 h.b, .int .i64 h.lo, .int .i64 h.hi, .int .i64 h.n] 23 (0, 0)) := by
    rw [← hW0]
    exact World.alloc_heap_new w _
  have CBg := begun6_calls W0 (hT.below hb0)
  have hfr := (framesR_le b.data.toList).1
  have hbl : b.data.toList.length = b.size := rfl
  have COb := fun W hW => Open_calls b (by omega) (by omega) W hW
  have HCOb := Lib.hid COb
  have HCBg := Lib.hid CBg
  have HN := Lib.hid hn
  have HE := Lib.hid hE
  have HCS := Lib.hid hcs
  have HT := Lib.hid hT
  have HB0 := Lib.hid hb0
  have HX0 := Lib.hid hx0
  have HSZ := Lib.hid hsz0
  clear h0 h1 hL hn hp hE hcs hT CBg hb0 hx0 hsz0 COb hfr hbl
  go_enter Tryd.func8, Tryd.ntmps8
  go_wp2_with fail
  clear hW0
  refine HCBg.out.mono ?_
  rintro e w1 ⟨rfl, hb1⟩
  have hx01 := (hb1.block w.heap.size (by rw [HSZ.out]; omega)).trans HX0.out
  have HBw1 : Hid (Below w.heap.size w w1) := Lib.hid (HB0.out.trans (hb1.mono (by rw [HSZ.out]; omega)))
  obtain ⟨d0, d1, d2, d3, d4, d5⟩ := cells6 hx01
  have HX01 := Lib.hid hx01
  have CB := Build_calls h p n c z HN.out (by omega) hnc HCS.out w1 (HT.out.below HBw1.out) ((HE.out.below HBw1.out (Nat.le_refl _)).mono HBw1.out.size)
  unfold Hd.val BuildPost at CB
  clear hb1 hx01
  by_cases hgo : goesR h z = 0
  · have hbt : builtR h z = (fileB h z, 0) := by unfold builtR; rw [if_pos hgo]
    rw [hbt] at CB
    have CO := fun W hW => Open_built (h := h) (l := z) hgo W hW
    have hnl : n ≤ 2097152 := by rw [← HN.out]; exact (goesR_good hgo).2.1
    obtain ⟨S, hS⟩ : ∃ S, (⟨(fileB h z).toArray⟩ : ByteArray) = S := ⟨_, rfl⟩
    simp only [hS] at CB CO
    have HCB := Lib.hid CB
    have HCO := Lib.hid CO
    clear CB CO hS hbt hgo
    go_wp2_with fail
    refine HCB.out.mono ?_
    rintro e w2 ⟨rfl, hb2⟩
    have HBw2 : Hid (Below w.heap.size w w2) := Lib.hid (HBw1.out.trans (hb2.mono HBw1.out.size))
    have HX02 := Lib.hid ((hb2.block w.heap.size (Array.getElem?_eq_some_iff.1 HX01.out).1).trans HX01.out)
    clear hb2 d0 d1 d2 d3 d4 d5
    go_wp2_with fail
    refine (HCO.out w2 (HT.out.below HBw2.out)).mono ?_
    rintro e w3 ⟨fb, rfl, hF3, hfb3, hb3⟩
    rw [HN.out] at hF3
    have hx03 := (hb3.block w.heap.size (Array.getElem?_eq_some_iff.1 HX02.out).1).trans HX02.out
    have hsw := (Array.getElem?_eq_some_iff.1 HX02.out).1
    have hfz := (arr_cell hx03 (k := 5) (v := .int .i64 h.n) rfl).2
    have hB3 : Below w.heap.size w w3 := HBw2.out.trans (hb3.mono HBw2.out.size)
    -- the count is put into the head
    have hx4 : (w3.setCell ⟨w.heap.size, 5, none⟩ (.int .i64 (n : Int))).heap[w.heap.size]? = some (.cells #[.int .i64 h.w, .int .i64 h.t, .int .i64 h.b, .int .i64 h.lo, .int .i64 h.hi, .int .i64 (n : Int)] 23 (0, 0)) := arr_set hx03 (k := 5) _
    have hF4 : FileAt (w3.setCell ⟨w.heap.size, 5, none⟩ (.int .i64 (n : Int))) w2.heap.size fb ⟨h.w, h.t, h.b, h.lo, h.hi, (n : Nat)⟩ z ((0 : Nat) : Int) := by
      obtain ⟨lp, lc, q, cc, f1, f2, f3, f4⟩ := hF3
      exact ⟨lp, lc, q, cc, (Below.heap_setCell w3 ⟨w.heap.size, 5, none⟩ _ fb (by show fb ≠ w.heap.size; omega)).trans f1, own_setCell f2 (p := ⟨w.heap.size, 5, none⟩) (own_type_ne f2 hx03 (by decide)) _, own_setCell f3 (p := ⟨w.heap.size, 5, none⟩) (own_type_ne f3 hx03 (by decide)) _, f4⟩
    have hB4 : Below w.heap.size w (w3.setCell ⟨w.heap.size, 5, none⟩ (.int .i64 (n : Int))) := hB3.setCell (p := ⟨w.heap.size, 5, none⟩) (Nat.le_refl _) _
    obtain ⟨e0, e1, e2, e3, e4, e5⟩ := cells6 hx03
    clear hF3 hfb3 hb3 hx03 hB3
    have HF4 := Lib.hid hF4
    have HB4 := Lib.hid hB4
    have HX4 := Lib.hid hx4
    clear hF4 hB4 hx4
    go_wp2
    have HS5 : Hid (∀ W : World, W.heap[w.heap.size]? = some (.cells #[.int .i64 h.w, .int .i64 h.t, .int .i64 h.b, .int .i64 h.lo, .int .i64 h.hi, .int .i64 (n : Int)] 23 (0, 0)) → W.cell? ⟨w.heap.size, 0, none⟩ = some (.int .i64 h.w) ∧ W.cell? ⟨w.heap.size, 1, none⟩ = some (.int .i64 h.t) ∧ W.cell? ⟨w.heap.size, 2, none⟩ = some (.int .i64 h.b) ∧ W.cell? ⟨w.heap.size, 3, none⟩ = some (.int .i64 h.lo) ∧ W.cell? ⟨w.heap.size, 4, none⟩ = some (.int .i64 h.hi) ∧ W.cell? ⟨w.heap.size, 5, none⟩ = some (.int .i64 (n : Int))) := Lib.hid (fun W hW => by
      obtain ⟨e0, e1, e2, e3, e4, e5⟩ := cells6 hW
      exact ⟨e0, e1, e2, e3, e4, e5⟩)
    have CH4 := Head_calls _ fb _ z _ ((w3.setCell ⟨w.heap.size, 5, none⟩ (.int .i64 (n : Int))).drew) (HF4.out.below (Below.refl _ _).drew)
    unfold Hd.val at CH4
    have HCH4 := Lib.hid CH4
    have hQ1 : Tryd.prog.eqGuardType Tryd.prog.depth 23 = false := by kernel_rfl
    clear CH4 e0 e1 e2 e3 e4 e5 hfz
    refine wp_region_held_drew (S := (fun W => W.cell? ⟨w.heap.size, 0, none⟩ = some (.int .i64 h.w) ∧ W.cell? ⟨w.heap.size, 1, none⟩ = some (.int .i64 h.t) ∧ W.cell? ⟨w.heap.size, 2, none⟩ = some (.int .i64 h.b) ∧ W.cell? ⟨w.heap.size, 3, none⟩ = some (.int .i64 h.lo) ∧ W.cell? ⟨w.heap.size, 4, none⟩ = some (.int .i64 h.hi) ∧ W.cell? ⟨w.heap.size, 5, none⟩ = some (.int .i64 (n : Int)))) (by kernel_rfl) ?_ (fun hHeld => ?_)
    · exact HS5.out ((w3.setCell ⟨w.heap.size, 5, none⟩ (.int .i64 (n : Int))).drew) HX4.out
    refine wpAnyH_take (i := 0) (oi := { dst := some 39, op := Op.move (Operand.tmp 10), type := 36, pos := "plain.go:46", after := #[], guard := none }) (v := ?_) rfl (by kernel_rfl) (by kernel_rfl) (by kernel_rfl) (fun _ _ _ h => h) (Or.inl ⟨by rfl, ?_⟩) (by assumption) ?_
    rotate_left 1
    · intro w hSw
      (try dsimp only at hSw)
      go_simp
      try with_reducible rfl
    (try simp only [Act.put, List.setIfInBounds_toArray, List.set_cons_zero, List.set_cons_succ])
    refine wpAnyH_take (i := 2) (oi := { dst := some 41, op := Op.load 23 (Operand.tmp 3), type := 23, pos := "plain.go:46", after := #[], guard := none }) (v := ?_) rfl (by kernel_rfl) (by kernel_rfl) (by kernel_rfl) (fun _ _ _ h => h) (Or.inl ⟨by rfl, ?_⟩) (by assumption) ?_
    rotate_left 1
    · intro w hSw
      (try dsimp only at hSw)
      go_simp
      try with_reducible rfl
    (try simp only [Act.put, List.setIfInBounds_toArray, List.set_cons_zero, List.set_cons_succ])
    refine wpAnyH_ready (rs := [1]) (by kernel_rfl) (by simp) ?_
    refine AllReadyH.cons (o := { dst := some 40, op := Op.call { callee := Callee.value (Operand.func 29), args := #[Operand.tmp 39], argTypes := #[36] }, type := 23, pos := "plain.go:46", after := #[{ on := 0, ground := Ground.data }], guard := none }) rfl (fun K hK => ?_) ?_
    rotate_left 1
    · exact AllReadyH.nil
    go_simp
    go_at_call 29; refine (HCH4.out).mono ?_; rintro e w5 ⟨rfl, hb5'⟩
    have hb5 := below_of hb5'
    have HX5 := Lib.hid ((hb5.block _ (Array.getElem?_eq_some_iff.1 HX4.out).1).trans HX4.out)
    have HF5 := Lib.hid (HF4.out.below hb5)
    have HB5 := Lib.hid (HB4.out.trans (hb5.mono HB4.out.size))
    clear hb5 hb5'
    refine hK.out _ _ ?_ (fun hHeld1 => ?_)
    · exact HS5.out _ HX5.out
    clear hK K
    refine wpAnyH_take (i := 3) (oi := { dst := some 42, op := Op.binOp BinOp.neq 23 (Operand.tmp 40) (Operand.tmp 41) 23, type := 4, pos := "plain.go:46", after := #[{ on := 1, ground := Ground.data }, { on := 2, ground := Ground.data }], guard := none }) (v := ?_) rfl (by kernel_rfl) (by kernel_rfl) (by kernel_rfl) (fun _ _ _ h => h) (Or.inl ⟨by rfl, ?_⟩) (by assumption) ?_
    rotate_left 1
    · intro w hSw
      (try dsimp only at hSw)
      go_simp
      try with_reducible rfl
    (try simp only [Act.put, List.setIfInBounds_toArray, List.set_cons_zero, List.set_cons_succ])
    refine wpAnyH_take (i := 4) (oi := { dst := some 43, op := Op.move (Operand.tmp 42), type := 4, pos := "plain.go:46", after := #[{ on := 3, ground := Ground.data }, { on := 1, ground := Ground.chain }], guard := none }) (v := ?_) rfl (by kernel_rfl) (by kernel_rfl) (by kernel_rfl) (fun _ _ _ h => h) (Or.inl ⟨by rfl, ?_⟩) (by assumption) ?_
    rotate_left 1
    · intro w hSw
      (try dsimp only at hSw)
      go_simp
      try with_reducible rfl
    (try simp only [Act.put, List.setIfInBounds_toArray, List.set_cons_zero, List.set_cons_succ])
    refine wpAnyH_take (i := 5) (oi := { dst := some 44, op := Op.move (Operand.tmp 10), type := 36, pos := "plain.go:46", after := #[{ on := 4, ground := Ground.guard }], guard := some (4, false) }) (v := ?_) rfl (by kernel_rfl) (by kernel_rfl) (by kernel_rfl) (fun _ _ _ h => h) (Or.inl ⟨by rfl, ?_⟩) (by assumption) ?_
    rotate_left 1
    · intro w hSw
      (try dsimp only at hSw)
      go_simp
      try with_reducible rfl
    (try simp only [Act.put, List.setIfInBounds_toArray, List.set_cons_zero, List.set_cons_succ])
    refine wpAnyH_take (i := 7) (oi := { dst := some 46, op := Op.move (Operand.tmp 1), type := 24, pos := "plain.go:46", after := #[{ on := 4, ground := Ground.guard }], guard := some (4, false) }) (v := ?_) rfl (by kernel_rfl) (by kernel_rfl) (by kernel_rfl) (fun _ _ _ h => h) (Or.inl ⟨by rfl, ?_⟩) (by assumption) ?_
    rotate_left 1
    · intro w hSw
      (try dsimp only at hSw)
      go_simp
      try with_reducible rfl
    (try simp only [Act.put, List.setIfInBounds_toArray, List.set_cons_zero, List.set_cons_succ])
    refine wpAnyH_ready (rs := [6]) (by kernel_rfl) (by simp) ?_
    refine AllReadyH.cons (o := { dst := some 45, op := Op.call { callee := Callee.value (Operand.func 24), args := #[Operand.tmp 44], argTypes := #[36] }, type := 24, pos := "plain.go:46", after := #[{ on := 5, ground := Ground.data }, { on := 4, ground := Ground.chain }, { on := 4, ground := Ground.guard }], guard := some (4, false) }) rfl (fun K hK => ?_) ?_
    rotate_left 1
    · exact AllReadyH.nil
    go_simp
    go_at_call 24; refine (All_calls _ fb _ z _ w5 HF5.out (by rw [HN.out]; exact hnl)).mono ?_; rintro e w6 ⟨v6, rfl, ho6, hb6⟩
    have HX6 := Lib.hid ((hb6.block _ (Array.getElem?_eq_some_iff.1 HX5.out).1).trans HX5.out)
    have HO6 := Lib.hid ho6
    have HB6 := Lib.hid (HB5.out.trans (hb6.mono HB5.out.size))
    clear hb6 ho6
    refine hK.out _ _ ?_ (fun hHeld6 => ?_)
    · exact HS5.out _ HX6.out
    clear hK K
    (try simp only [Act.put, List.setIfInBounds_toArray, List.set_cons_zero, List.set_cons_succ])
    refine wpAnyH_ready (rs := [8]) (by kernel_rfl) (by simp) ?_
    refine AllReadyH.cons (o := { dst := some 47, op := Op.call { callee := Callee.value (Operand.func 14), args := #[Operand.tmp 45, Operand.tmp 46], argTypes := #[24, 24] }, type := 4, pos := "plain.go:46", after := #[{ on := 6, ground := Ground.data }, { on := 7, ground := Ground.data }, { on := 6, ground := Ground.chain }, { on := 4, ground := Ground.guard }], guard := some (4, false) }) rfl (fun K hK => ?_) ?_
    rotate_left 1
    · exact AllReadyH.nil
    go_simp
    go_at_call 14; refine (sameE_true v6 (.slice p n c) z (by rw [HN.out]; omega) w6 (ESl.of_own HO6.out) (by have := (HE.out.below HB6.out (Nat.le_refl _)).esl c; rw [HN.out] at this; exact this)).mono ?_; rintro e w7 ⟨rfl, hb7⟩
    have HX7 := Lib.hid ((hb7.block _ (Array.getElem?_eq_some_iff.1 HX6.out).1).trans HX6.out)
    have HB7 := Lib.hid (HB6.out.trans (hb7.mono HB6.out.size))
    clear hb7
    refine hK.out _ _ ?_ (fun hHeld8 => ?_)
    · exact HS5.out _ HX7.out
    clear hK K
    (try simp only [Act.put, List.setIfInBounds_toArray, List.set_cons_zero, List.set_cons_succ])
    refine wpAnyH_take (i := 9) (oi := { dst := some 48, op := Op.unOp UnOp.not 4 (Operand.tmp 47), type := 4, pos := "plain.go:46", after := #[{ on := 8, ground := Ground.data }, { on := 4, ground := Ground.guard }], guard := some (4, false) }) (v := ?_) rfl (by kernel_rfl) (by kernel_rfl) (by kernel_rfl) (fun _ _ _ h => h) (Or.inl ⟨by rfl, ?_⟩) (by assumption) ?_
    rotate_left 1
    · intro w hSw
      (try dsimp only at hSw)
      go_simp
      try with_reducible rfl
    (try simp only [Act.put, List.setIfInBounds_toArray, List.set_cons_zero, List.set_cons_succ])
    refine wpAnyH_take (i := 10) (oi := { dst := some 49, op := Op.pick (Operand.tmp 43) (Operand.const (Value.bool true)) (Operand.tmp 48), type := 4, pos := "plain.go:46", after := #[{ on := 4, ground := Ground.data }, { on := 9, ground := Ground.data }], guard := none }) (v := ?_) rfl (by kernel_rfl) (by kernel_rfl) (by kernel_rfl) (fun _ _ _ h => h) (Or.inl ⟨by rfl, ?_⟩) (by assumption) ?_
    rotate_left 1
    · intro w hSw
      (try dsimp only at hSw)
      go_simp
      try with_reducible rfl
    (try simp only [Act.put, List.setIfInBounds_toArray, List.set_cons_zero, List.set_cons_succ])
    refine wpAnyH_done (by kernel_rfl) ?_ _
    clear HX4 HX5 HX6 HX7 HF4 HF5 HS5 HCH4
    have HBw7 := Lib.hid HB7.out
    have hBo := HCOb.out w7 (HT.out.below HBw7.out)
    have HCOV := Lib.hid hBo
    clear hBo
    go_wp2_with fail
    refine HCOV.out.mono ?_
    rintro e w5 ⟨hb5, ⟨ho5, rfl⟩ | ⟨h', l', fb', ho5, rfl, hF5⟩⟩
    · have HB5 := Lib.hid (HBw7.out.trans (hb5.mono HBw7.out.size))
      clear hb5 ho5
      go_wp2
      go_ret
      exact ⟨rfl, HB5.out⟩
    · obtain ⟨hgo', hbf⟩ := openR_some ho5
      have hbt' : builtR h' l' = (b.data.toList, 0) := by unfold builtR; rw [if_pos hgo', hbf]
      obtain ⟨hh', hl', hgd'⟩ := goesR_good hgo'
      have CH := Head_calls _ fb' h' l' 0 w5 hF5
      have HCH := Lib.hid CH
      have HF5 := Lib.hid hF5
      have HB5 := Lib.hid (HBw7.out.trans (hb5.mono HBw7.out.size))
      have HBt := Lib.hid hbt'
      have HGd := Lib.hid hgd'
      clear CH hF5 hb5 hbt' hgo' hbf ho5 hh' hgd'
      go_wp2_with fail
      refine HCH.out.mono ?_
      rintro e w6 ⟨rfl, hb6⟩
      have CA := All_calls _ fb' h' l' 0 w6 (HF5.out.below hb6) hl'
      have HCA := Lib.hid CA
      have HB6 := Lib.hid (HB5.out.trans (hb6.mono HB5.out.size))
      clear CA hb6
      go_wp2_with fail
      refine HCA.out.mono ?_
      rintro e w7 ⟨v7, rfl, ho7, hb7⟩
      obtain ⟨vp, vc, rfl, _⟩ := own_rd ho7
      have HB7 := Lib.hid (HB6.out.trans (hb7.mono HB6.out.size))
      have CB7 := Build_calls h' vp l'.length vc l' rfl (by omega) (own_cap ho7) (fun e he => by have := (HGd.out e he).2.2; omega) w7 (HT.out.below HB7.out) (el_own ho7 rfl)
      rw [HBt.out] at CB7
      have CB8 : Calls Tryd.prog 12 #[h'.val, .slice vp l'.length vc] w7 fun e w' => e = .returned (.tuple #[.string b, .int .i64 0]) ∧ Below w7.heap.size w7 w' := CB7
      have HCB7 := Lib.hid CB8
      clear CB7 CB8 ho7 hb7
      go_wp2_with fail
      refine HCB7.out.mono ?_
      rintro e w8 ⟨rfl, hb8⟩
      have HB8 := Lib.hid (HB7.out.trans (hb8.mono HB7.out.size))
      clear hb8
      go_wp2
      go_ret
      exact ⟨rfl, HB8.out⟩
  · obtain ⟨g, hg⟩ : ∃ g, goesR h z = g := ⟨_, rfl⟩
    have hbt : builtR h z = ([], g) := by unfold builtR; rw [if_neg hgo, hg]
    rw [hbt] at CB
    have CB2 : Calls Tryd.prog 12 #[.agg #[.int .i64 h.w, .int .i64 h.t, .int .i64 h.b, .int .i64 h.lo, .int .i64 h.hi, .int .i64 h.n], .slice p n c] w1 fun e w' => e = .returned (.tuple #[.string ⟨#[]⟩, .int .i64 g]) ∧ Below w1.heap.size w1 w' := CB
    rw [hg] at hgo
    have hg0 : (g == 0) = false := by simpa using hgo
    have HCB := Lib.hid CB2
    clear CB CB2 hbt hg
    go_wp2_with fail
    refine HCB.out.mono ?_
    rintro e w2 ⟨rfl, hb2⟩
    have HBw2 := Lib.hid (HBw1.out.trans (hb2.mono HBw1.out.size))
    clear hb2 d0 d1 d2 d3 d4 d5
    have hBo := HCOb.out w2 (HT.out.below HBw2.out)
    have HCOV := Lib.hid hBo
    clear hBo
    go_wp2_with fail
    refine HCOV.out.mono ?_
    rintro e w5 ⟨hb5, ⟨ho5, rfl⟩ | ⟨h', l', fb', ho5, rfl, hF5⟩⟩
    · have HB5 := Lib.hid (HBw2.out.trans (hb5.mono HBw2.out.size))
      clear hb5 ho5
      go_wp2
      go_ret
      exact ⟨rfl, HB5.out⟩
    · obtain ⟨hgo', hbf⟩ := openR_some ho5
      have hbt' : builtR h' l' = (b.data.toList, 0) := by unfold builtR; rw [if_pos hgo', hbf]
      obtain ⟨hh', hl', hgd'⟩ := goesR_good hgo'
      have CH := Head_calls _ fb' h' l' 0 w5 hF5
      have HCH := Lib.hid CH
      have HF5 := Lib.hid hF5
      have HB5 := Lib.hid (HBw2.out.trans (hb5.mono HBw2.out.size))
      have HBt := Lib.hid hbt'
      have HGd := Lib.hid hgd'
      clear CH hF5 hb5 hbt' hgo' hbf ho5 hh' hgd'
      go_wp2_with fail
      refine HCH.out.mono ?_
      rintro e w6 ⟨rfl, hb6⟩
      have CA := All_calls _ fb' h' l' 0 w6 (HF5.out.below hb6) hl'
      have HCA := Lib.hid CA
      have HB6 := Lib.hid (HB5.out.trans (hb6.mono HB5.out.size))
      clear CA hb6
      go_wp2_with fail
      refine HCA.out.mono ?_
      rintro e w7 ⟨v7, rfl, ho7, hb7⟩
      obtain ⟨vp, vc, rfl, _⟩ := own_rd ho7
      have HB7 := Lib.hid (HB6.out.trans (hb7.mono HB6.out.size))
      have CB7 := Build_calls h' vp l'.length vc l' rfl (by omega) (own_cap ho7) (fun e he => by have := (HGd.out e he).2.2; omega) w7 (HT.out.below HB7.out) (el_own ho7 rfl)
      rw [HBt.out] at CB7
      have CB8 : Calls Tryd.prog 12 #[h'.val, .slice vp l'.length vc] w7 fun e w' => e = .returned (.tuple #[.string b, .int .i64 0]) ∧ Below w7.heap.size w7 w' := CB7
      have HCB7 := Lib.hid CB8
      clear CB7 CB8 ho7 hb7
      go_wp2_with fail
      refine HCB7.out.mono ?_
      rintro e w8 ⟨rfl, hb8⟩
      have HB8 := Lib.hid (HB7.out.trans (hb8.mono HB7.out.size))
      clear hb8
      go_wp2
      go_ret
      exact ⟨rfl, HB8.out⟩
end Go.Proofs.YtihgjihdmlomaaaDoor

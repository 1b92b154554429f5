/-
  WALK: both files asked one thing (the law's asked).
-/
import Derived.Test.YtihgjihdmlomaaaDoorJBwI
import Derived.Test.YtihgjihdmlomaaaDoorJE
namespace Go.Proofs.YtihgjihdmlomaaaDoor
open Go.RowKit ArgK
set_option linter.unusedVariables false

set_option maxRecDepth 100000 in
set_option maxHeartbeats 4000000 in
theorem asked_calls (b1 f1 b2 f2 : Nat) (h : Hd) (l : List Ent) (r0 : Nat) (en : Ent) (most : Int) (hm : most ≤ 9223372036854775807) (w : World) (hB : Both w b1 f1 b2 f2 h l r0) (hgo : goesR h l = 0) (hr0 : r0 ≤ 4611686018427387904) :
    Calls Tryd.prog 17 #[.pointer (some ⟨f1, 0, none⟩), .pointer (some ⟨f2, 0, none⟩), .agg #[.int .i64 en.v, .string en.c, .int .i64 en.i, .int .i64 en.s, .bool en.d, .int .i64 most]] w fun e w' =>
      ∃ r, e = .returned (.bool true) ∧ Both w' b1 f1 b2 f2 h l r ∧ r0 ≤ r ∧ r ≤ r0 + 131072 ∧ Fr2 f1 f2 w w' := by
  obtain ⟨hh, hl, hgd⟩ := goesR_good hgo
  obtain ⟨O, hO⟩ : ∃ o : Obj, (.cells #[.int .i64 en.v, .string en.c, .int .i64 en.i, .int .i64 en.s, .bool en.d, .int .i64 most] 44) = o := ⟨_, rfl⟩
  have hb1 : Below w.heap.size w (w.alloc O).drew := ((Below.refl _ w).alloc (Nat.le_refl _) O).drew
  have hB1 := hB.below hb1
  have hx1 : (w.alloc O).drew.heap[w.heap.size]? = some O := by rw [heap_drewX]; exact World.alloc_heap_new w O
  have hf1 : f1 < w.heap.size := by
    obtain ⟨_, _, _, _, q, _⟩ := hB.f
    exact (Array.getElem?_eq_some_iff.1 q).1
  have hf2 : f2 < w.heap.size := hB.d.lt
  have HSK : Hid (∀ W : World, W.heap[w.heap.size]? = some O → W.cell? ⟨w.heap.size, 0, none⟩ = some (.int .i64 en.v) ∧ W.cell? ⟨w.heap.size, 1, none⟩ = some (.string en.c) ∧ W.cell? ⟨w.heap.size, 2, none⟩ = some (.int .i64 en.i) ∧ W.cell? ⟨w.heap.size, 3, none⟩ = some (.int .i64 en.s) ∧ W.cell? ⟨w.heap.size, 4, none⟩ = some (.bool en.d) ∧ W.cell? ⟨w.heap.size, 5, none⟩ = some (.int .i64 most)) := Lib.hid (fun W hW => by rw [← hO] at hW; exact cells6 hW)
  have hsz1 : (w.alloc O).drew.heap.size = w.heap.size + 1 := by rw [heap_drewX]; simp
  -- what the chain of three calls leaves
  have HChain : Hid (∀ (A : List Ent × Nat) (w3 w4 w5 : World), FileAt w3 b1 f1 h l (A.2 : Nat) → (w.alloc O).drew.grownBy w3 (some f1) → RFileAt w4 b2 f2 h l (A.2 : Nat) → w3.grownBy w4 (some f2) → Below w4.heap.size w4 w5 → Both w5 b1 f1 b2 f2 h l A.2 ∧ Fr2 f1 f2 w w5) := Lib.hid (fun A w3 w4 w5 q1 q2 q3 q4 q5 => by
    have k1 := keep_d hB1.f hB1.d q2
    have k2 := keep_f q1 k1 q4
    exact ⟨⟨k2.below q5, q3.below q5⟩, (((Fr2.ofB hb1).trans (Fr2.of1 q2)).trans (Fr2.of2 q4)).trans (Fr2.ofB q5)⟩)
  have HB1 := Lib.hid hB1
  have HX1 := Lib.hid hx1
  by_cases hmz : most = 0
  · subst hmz
    obtain ⟨s, hp⟩ := part_ex hgo (plE en.v)
    have hA := findA_len hgo en.v s r0
    have C1 := PFind_calls b1 f1 h l r0 en.v s _ hB1.f hgo hr0 hp
    have C2 := fun W hD => RFind_calls b2 f2 h l r0 en.v s W hD hgo hr0 hp
    obtain ⟨A, hAe⟩ : ∃ A, findA en.v (groups l) s r0 = A := ⟨_, rfl⟩
    have hAe2 : findG en.v ((groups l).drop (s - 1)) [] r0 = A := hAe
    rw [hAe] at hA C1
    rw [hAe2] at C2
    have HC1 := Lib.hid C1
    have HC2 := Lib.hid C2
    obtain ⟨hA1, hA2, hA3⟩ := hA
    obtain ⟨d0, d1, d2, d3, d4, d5⟩ := HSK.out (w.alloc O) (World.alloc_heap_new w O)
    clear C1 C2 hB1 hB hx1 hb1 hgo hp hAe hAe2 hgd hh
    go_enter Tryd.func17, Tryd.ntmps17
    go_wp2
    refine wp_region_held_drew (S := (fun W => W.cell? ⟨w.heap.size, 0, none⟩ = some (.int .i64 en.v) ∧ W.cell? ⟨w.heap.size, 1, none⟩ = some (.string en.c) ∧ W.cell? ⟨w.heap.size, 2, none⟩ = some (.int .i64 en.i) ∧ W.cell? ⟨w.heap.size, 3, none⟩ = some (.int .i64 en.s) ∧ W.cell? ⟨w.heap.size, 4, none⟩ = some (.bool en.d) ∧ W.cell? ⟨w.heap.size, 5, none⟩ = some (.int .i64 0))) (by kernel_rfl) ?_ (fun hHeld => ?_)
    · exact HSK.out _ HX1.out
    refine wpAnyH_take (i := 0) (oi := { dst := some 24, op := Op.move (Operand.tmp 0), type := 36, pos := "law.go:61", after := #[], guard := none }) (v := ?_) rfl (by kernel_rfl) (by kernel_rfl) (by kernel_rfl) (fun _ _ _ h => h) (Or.inl ⟨by rfl, ?_⟩) (by assumption) ?_
    rotate_left 1
    · intro w hSw
      (try dsimp only at hSw)
      go_simp
      try with_reducible rfl
    (try simp only [Act.put, List.setIfInBounds_toArray, List.set_cons_zero, List.set_cons_succ])
    refine wpAnyH_take (i := 1) (oi := { dst := some 25, op := Op.fieldAddr 44 (Operand.tmp 5) 0, type := 0, pos := "law.go:61", after := #[], guard := none }) (v := ?_) rfl (by kernel_rfl) (by kernel_rfl) (by kernel_rfl) (fun _ _ _ h => h) (Or.inl ⟨by rfl, ?_⟩) (by assumption) ?_
    rotate_left 1
    · intro w hSw
      (try dsimp only at hSw)
      go_simp
      try with_reducible rfl
    (try simp only [Act.put, List.setIfInBounds_toArray, List.set_cons_zero, List.set_cons_succ])
    refine wpAnyH_take (i := 2) (oi := { dst := some 26, op := Op.fieldAddr 33 (Operand.tmp 25) 0, type := 0, pos := "law.go:61", after := #[{ on := 1, ground := Ground.data }], guard := none }) (v := ?_) rfl (by kernel_rfl) (by kernel_rfl) (by kernel_rfl) (fun _ _ _ h => h) (Or.inl ⟨by rfl, ?_⟩) (by assumption) ?_
    rotate_left 1
    · intro w hSw
      (try dsimp only at hSw)
      go_simp
      try with_reducible rfl
    (try simp only [Act.put, List.setIfInBounds_toArray, List.set_cons_zero, List.set_cons_succ])
    refine wpAnyH_take (i := 3) (oi := { dst := some 27, op := Op.load 3 (Operand.tmp 26), type := 3, pos := "law.go:61", after := #[{ on := 2, ground := Ground.data }], guard := none }) (v := ?_) rfl (by kernel_rfl) (by kernel_rfl) (by kernel_rfl) (fun _ _ _ h => h) (Or.inl ⟨by rfl, ?_⟩) (by assumption) ?_
    rotate_left 1
    · intro w hSw
      (try dsimp only at hSw)
      go_simp
      try with_reducible rfl
    (try simp only [Act.put, List.setIfInBounds_toArray, List.set_cons_zero, List.set_cons_succ])
    refine wpAnyH_take (i := 5) (oi := { dst := some 29, op := Op.move (Operand.tmp 1), type := 39, pos := "law.go:61", after := #[], guard := none }) (v := ?_) rfl (by kernel_rfl) (by kernel_rfl) (by kernel_rfl) (fun _ _ _ h => h) (Or.inl ⟨by rfl, ?_⟩) (by assumption) ?_
    rotate_left 1
    · intro w hSw
      (try dsimp only at hSw)
      go_simp
      try with_reducible rfl
    (try simp only [Act.put, List.setIfInBounds_toArray, List.set_cons_zero, List.set_cons_succ])
    refine wpAnyH_take (i := 6) (oi := { dst := some 30, op := Op.fieldAddr 44 (Operand.tmp 5) 0, type := 0, pos := "law.go:61", after := #[], guard := none }) (v := ?_) rfl (by kernel_rfl) (by kernel_rfl) (by kernel_rfl) (fun _ _ _ h => h) (Or.inl ⟨by rfl, ?_⟩) (by assumption) ?_
    rotate_left 1
    · intro w hSw
      (try dsimp only at hSw)
      go_simp
      try with_reducible rfl
    (try simp only [Act.put, List.setIfInBounds_toArray, List.set_cons_zero, List.set_cons_succ])
    refine wpAnyH_take (i := 7) (oi := { dst := some 31, op := Op.fieldAddr 33 (Operand.tmp 30) 0, type := 0, pos := "law.go:61", after := #[{ on := 6, ground := Ground.data }], guard := none }) (v := ?_) rfl (by kernel_rfl) (by kernel_rfl) (by kernel_rfl) (fun _ _ _ h => h) (Or.inl ⟨by rfl, ?_⟩) (by assumption) ?_
    rotate_left 1
    · intro w hSw
      (try dsimp only at hSw)
      go_simp
      try with_reducible rfl
    (try simp only [Act.put, List.setIfInBounds_toArray, List.set_cons_zero, List.set_cons_succ])
    refine wpAnyH_take (i := 8) (oi := { dst := some 32, op := Op.load 3 (Operand.tmp 31), type := 3, pos := "law.go:61", after := #[{ on := 7, ground := Ground.data }], guard := none }) (v := ?_) rfl (by kernel_rfl) (by kernel_rfl) (by kernel_rfl) (fun _ _ _ h => h) (Or.inl ⟨by rfl, ?_⟩) (by assumption) ?_
    rotate_left 1
    · intro w hSw
      (try dsimp only at hSw)
      go_simp
      try with_reducible rfl
    (try simp only [Act.put, List.setIfInBounds_toArray, List.set_cons_zero, List.set_cons_succ])
    refine wpAnyH_ready (rs := [4]) (by kernel_rfl) (by simp) ?_
    refine AllReadyH.cons (o := { dst := some 28, op := Op.call { callee := Callee.value (Operand.func 21), args := #[Operand.tmp 24, Operand.tmp 27], argTypes := #[36, 3] }, type := 24, pos := "law.go:61", after := #[{ on := 0, ground := Ground.data }, { on := 3, ground := Ground.data }], guard := none }) rfl (fun K hK => ?_) ?_
    rotate_left 1
    · exact AllReadyH.nil
    go_simp
    go_at_call 21; refine HC1.out.mono ?_; rintro e w3 ⟨v3, rfl, ho3, hF3, hg3⟩
    have hx3 := (hg3.block w.heap.size (by rw [hsz1]; omega) (fun e => by have := Option.some.inj e; omega)).trans HX1.out
    have HX3 := Lib.hid hx3
    have HF3 := Lib.hid hF3
    have HG3 := Lib.hid hg3
    have HO3 := Lib.hid ho3
    have HD3 := Lib.hid (keep_d HB1.out.f HB1.out.d hg3)
    have hz3 : w.heap.size < w3.heap.size := (Array.getElem?_eq_some_iff.1 hx3).1
    clear hx3 hF3 hg3 ho3
    refine hK.out _ _ ?_ (fun hHeld4 => ?_)
    · exact HSK.out _ HX3.out
    clear hK K
    (try simp only [Act.put, List.setIfInBounds_toArray, List.set_cons_zero, List.set_cons_succ])
    refine wpAnyH_ready (rs := [9]) (by kernel_rfl) (by simp) ?_
    refine AllReadyH.cons (o := { dst := some 33, op := Op.call { callee := Callee.value (Operand.func 26), args := #[Operand.tmp 29, Operand.tmp 32], argTypes := #[39, 3] }, type := 24, pos := "law.go:61", after := #[{ on := 5, ground := Ground.data }, { on := 8, ground := Ground.data }, { on := 4, ground := Ground.chain }], guard := none }) rfl (fun K hK => ?_) ?_
    rotate_left 1
    · exact AllReadyH.nil
    go_simp
    go_at_call 26; refine (HC2.out w3 HD3.out).mono ?_; rintro e w4 ⟨v4, rfl, ho4, hF4, hg4⟩
    have hx4 := (hg4.block w.heap.size hz3 (fun e => by have := Option.some.inj e; omega)).trans HX3.out
    have HX4 := Lib.hid hx4
    have HF4 := Lib.hid hF4
    have HG4 := Lib.hid hg4
    have HO4 := Lib.hid ho4
    have HO34 := Lib.hid (own_grown HO3.out hg4 (fun k hk e => by have := (HO3.out.lt k hk).1; rw [hsz1] at this; have := Option.some.inj e; omega))
    have hz4 : w.heap.size < w4.heap.size := (Array.getElem?_eq_some_iff.1 hx4).1
    clear hx4 hF4 hg4 ho4
    refine hK.out _ _ ?_ (fun hHeld9 => ?_)
    · exact HSK.out _ HX4.out
    clear hK K
    (try simp only [Act.put, List.setIfInBounds_toArray, List.set_cons_zero, List.set_cons_succ])
    refine wpAnyH_ready (rs := [10]) (by kernel_rfl) (by simp) ?_
    refine AllReadyH.cons (o := { dst := some 34, op := Op.call { callee := Callee.value (Operand.func 14), args := #[Operand.tmp 28, Operand.tmp 33], argTypes := #[24, 24] }, type := 4, pos := "law.go:61", after := #[{ on := 4, ground := Ground.data }, { on := 9, ground := Ground.data }, { on := 9, ground := Ground.chain }], guard := none }) rfl (fun K hK => ?_) ?_
    rotate_left 1
    · exact AllReadyH.nil
    go_simp
    go_at_call 14; refine (sameE_true v3 v4 A.1 (by omega) w4 (ESl.of_own HO34.out) (ESl.of_own HO4.out)).mono ?_; rintro e w5 ⟨rfl, hb5⟩
    have HX5 := Lib.hid ((hb5.block w.heap.size hz4).trans HX4.out)
    obtain ⟨hBo5, hFr5⟩ := HChain.out A w3 w4 w5 HF3.out HG3.out HF4.out HG4.out hb5
    have HBo5 := Lib.hid hBo5
    have HFr5 := Lib.hid hFr5
    clear hBo5 hFr5 hb5
    refine hK.out _ _ ?_ (fun hHeld10 => ?_)
    · exact HSK.out _ HX5.out
    clear hK K
    (try simp only [Act.put, List.setIfInBounds_toArray, List.set_cons_zero, List.set_cons_succ])
    refine wpAnyH_take (i := 11) (oi := { dst := some 7, op := Op.assign (Operand.tmp 34), type := 4, pos := "law.go:61", after := #[{ on := 10, ground := Ground.data }, { on := 10, ground := Ground.chain }, { on := 0, ground := Ground.phase }, { on := 1, ground := Ground.phase }, { on := 2, ground := Ground.phase }, { on := 3, ground := Ground.phase }, { on := 4, ground := Ground.phase }, { on := 5, ground := Ground.phase }, { on := 6, ground := Ground.phase }, { on := 7, ground := Ground.phase }, { on := 8, ground := Ground.phase }, { on := 9, ground := Ground.phase }, { on := 10, ground := Ground.phase }], guard := none }) (v := ?_) rfl (by kernel_rfl) (by kernel_rfl) (by kernel_rfl) (fun _ _ _ h => h) (Or.inl ⟨by rfl, ?_⟩) (by assumption) ?_
    rotate_left 1
    · intro w hSw
      (try dsimp only at hSw)
      go_simp
      try with_reducible rfl
    (try simp only [Act.put, List.setIfInBounds_toArray, List.set_cons_zero, List.set_cons_succ])
    refine wpAnyH_done (by kernel_rfl) ?_ _
    go_wp2_with fail
    refine (Reads_calls b1 f1 h l _ w5 HBo5.out.f).mono ?_
    rintro e w6 ⟨rfl, hw6⟩
    subst hw6
    go_wp2_with fail
    refine (RReads_calls b2 f2 h l _ w6 HBo5.out.d).mono ?_
    rintro e w7 ⟨rfl, hw7⟩
    subst hw7
    go_wp2
    go_ret
    exact ⟨A.2, rfl, HBo5.out, hA2, hA3, HFr5.out⟩
  · obtain ⟨s, hp⟩ := part_ex hgo en
    have hA := fromA_len hgo en most hp r0
    have C1 := PFrom_calls b1 f1 h l r0 en most hm s _ hB1.f hgo hr0 hp
    have C2 := fun W hD => RFromA_calls b2 f2 h l r0 en most hm s W hD hgo hr0 hp
    obtain ⟨A, hAe⟩ : ∃ A, fromA en most (groups l) s r0 = A := ⟨_, rfl⟩
    rw [hAe] at hA C1
    rw [hAe] at C2
    unfold Ent.val at C1 C2
    have HC1 := Lib.hid C1
    have HC2 := Lib.hid C2
    obtain ⟨hA1, hA2, hA3⟩ := hA
    obtain ⟨d0, d1, d2, d3, d4, d5⟩ := HSK.out (w.alloc O) (World.alloc_heap_new w O)
    have hmb : (most != 0) = true := by simpa using hmz
    clear C1 C2 hB1 hB hx1 hb1 hgo hp hAe hgd hh
    go_enter Tryd.func17, Tryd.ntmps17
    go_wp2
    refine wp_region_held_drew (S := (fun W => W.cell? ⟨w.heap.size, 0, none⟩ = some (.int .i64 en.v) ∧ W.cell? ⟨w.heap.size, 1, none⟩ = some (.string en.c) ∧ W.cell? ⟨w.heap.size, 2, none⟩ = some (.int .i64 en.i) ∧ W.cell? ⟨w.heap.size, 3, none⟩ = some (.int .i64 en.s) ∧ W.cell? ⟨w.heap.size, 4, none⟩ = some (.bool en.d) ∧ W.cell? ⟨w.heap.size, 5, none⟩ = some (.int .i64 most))) (by kernel_rfl) ?_ (fun hHeld => ?_)
    · exact HSK.out _ HX1.out
    refine wpAnyH_take (i := 0) (oi := { dst := some 11, op := Op.move (Operand.tmp 0), type := 36, pos := "law.go:59", after := #[], guard := none }) (v := ?_) rfl (by kernel_rfl) (by kernel_rfl) (by kernel_rfl) (fun _ _ _ h => h) (Or.inl ⟨by rfl, ?_⟩) (by assumption) ?_
    rotate_left 1
    · intro w hSw
      (try dsimp only at hSw)
      go_simp
      try with_reducible rfl
    (try simp only [Act.put, List.setIfInBounds_toArray, List.set_cons_zero, List.set_cons_succ])
    refine wpAnyH_take (i := 1) (oi := { dst := some 12, op := Op.fieldAddr 44 (Operand.tmp 5) 0, type := 0, pos := "law.go:59", after := #[], guard := none }) (v := ?_) rfl (by kernel_rfl) (by kernel_rfl) (by kernel_rfl) (fun _ _ _ h => h) (Or.inl ⟨by rfl, ?_⟩) (by assumption) ?_
    rotate_left 1
    · intro w hSw
      (try dsimp only at hSw)
      go_simp
      try with_reducible rfl
    (try simp only [Act.put, List.setIfInBounds_toArray, List.set_cons_zero, List.set_cons_succ])
    refine wpAnyH_take (i := 2) (oi := { dst := some 13, op := Op.load 33 (Operand.tmp 12), type := 33, pos := "law.go:59", after := #[{ on := 1, ground := Ground.data }], guard := none }) (v := ?_) rfl (by kernel_rfl) (by kernel_rfl) (by kernel_rfl) (fun _ _ _ h => h) (Or.inl ⟨by rfl, ?_⟩) (by assumption) ?_
    rotate_left 1
    · intro w hSw
      (try dsimp only at hSw)
      go_simp
      try with_reducible rfl
    (try simp only [Act.put, List.setIfInBounds_toArray, List.set_cons_zero, List.set_cons_succ])
    refine wpAnyH_take (i := 3) (oi := { dst := some 14, op := Op.fieldAddr 44 (Operand.tmp 5) 1, type := 0, pos := "law.go:59", after := #[], guard := none }) (v := ?_) rfl (by kernel_rfl) (by kernel_rfl) (by kernel_rfl) (fun _ _ _ h => h) (Or.inl ⟨by rfl, ?_⟩) (by assumption) ?_
    rotate_left 1
    · intro w hSw
      (try dsimp only at hSw)
      go_simp
      try with_reducible rfl
    (try simp only [Act.put, List.setIfInBounds_toArray, List.set_cons_zero, List.set_cons_succ])
    refine wpAnyH_take (i := 4) (oi := { dst := some 15, op := Op.load 3 (Operand.tmp 14), type := 3, pos := "law.go:59", after := #[{ on := 3, ground := Ground.data }], guard := none }) (v := ?_) rfl (by kernel_rfl) (by kernel_rfl) (by kernel_rfl) (fun _ _ _ h => h) (Or.inl ⟨by rfl, ?_⟩) (by assumption) ?_
    rotate_left 1
    · intro w hSw
      (try dsimp only at hSw)
      go_simp
      try with_reducible rfl
    (try simp only [Act.put, List.setIfInBounds_toArray, List.set_cons_zero, List.set_cons_succ])
    refine wpAnyH_take (i := 6) (oi := { dst := some 17, op := Op.move (Operand.tmp 1), type := 39, pos := "law.go:59", after := #[], guard := none }) (v := ?_) rfl (by kernel_rfl) (by kernel_rfl) (by kernel_rfl) (fun _ _ _ h => h) (Or.inl ⟨by rfl, ?_⟩) (by assumption) ?_
    rotate_left 1
    · intro w hSw
      (try dsimp only at hSw)
      go_simp
      try with_reducible rfl
    (try simp only [Act.put, List.setIfInBounds_toArray, List.set_cons_zero, List.set_cons_succ])
    refine wpAnyH_take (i := 7) (oi := { dst := some 18, op := Op.fieldAddr 44 (Operand.tmp 5) 0, type := 0, pos := "law.go:59", after := #[], guard := none }) (v := ?_) rfl (by kernel_rfl) (by kernel_rfl) (by kernel_rfl) (fun _ _ _ h => h) (Or.inl ⟨by rfl, ?_⟩) (by assumption) ?_
    rotate_left 1
    · intro w hSw
      (try dsimp only at hSw)
      go_simp
      try with_reducible rfl
    (try simp only [Act.put, List.setIfInBounds_toArray, List.set_cons_zero, List.set_cons_succ])
    refine wpAnyH_take (i := 8) (oi := { dst := some 19, op := Op.load 33 (Operand.tmp 18), type := 33, pos := "law.go:59", after := #[{ on := 7, ground := Ground.data }], guard := none }) (v := ?_) rfl (by kernel_rfl) (by kernel_rfl) (by kernel_rfl) (fun _ _ _ h => h) (Or.inl ⟨by rfl, ?_⟩) (by assumption) ?_
    rotate_left 1
    · intro w hSw
      (try dsimp only at hSw)
      go_simp
      try with_reducible rfl
    (try simp only [Act.put, List.setIfInBounds_toArray, List.set_cons_zero, List.set_cons_succ])
    refine wpAnyH_take (i := 9) (oi := { dst := some 20, op := Op.fieldAddr 44 (Operand.tmp 5) 1, type := 0, pos := "law.go:59", after := #[], guard := none }) (v := ?_) rfl (by kernel_rfl) (by kernel_rfl) (by kernel_rfl) (fun _ _ _ h => h) (Or.inl ⟨by rfl, ?_⟩) (by assumption) ?_
    rotate_left 1
    · intro w hSw
      (try dsimp only at hSw)
      go_simp
      try with_reducible rfl
    (try simp only [Act.put, List.setIfInBounds_toArray, List.set_cons_zero, List.set_cons_succ])
    refine wpAnyH_take (i := 10) (oi := { dst := some 21, op := Op.load 3 (Operand.tmp 20), type := 3, pos := "law.go:59", after := #[{ on := 9, ground := Ground.data }], guard := none }) (v := ?_) rfl (by kernel_rfl) (by kernel_rfl) (by kernel_rfl) (fun _ _ _ h => h) (Or.inl ⟨by rfl, ?_⟩) (by assumption) ?_
    rotate_left 1
    · intro w hSw
      (try dsimp only at hSw)
      go_simp
      try with_reducible rfl
    (try simp only [Act.put, List.setIfInBounds_toArray, List.set_cons_zero, List.set_cons_succ])
    refine wpAnyH_ready (rs := [5]) (by kernel_rfl) (by simp) ?_
    refine AllReadyH.cons (o := { dst := some 16, op := Op.call { callee := Callee.value (Operand.func 23), args := #[Operand.tmp 11, Operand.tmp 13, Operand.tmp 15], argTypes := #[36, 33, 3] }, type := 24, pos := "law.go:59", after := #[{ on := 0, ground := Ground.data }, { on := 2, ground := Ground.data }, { on := 4, ground := Ground.data }], guard := none }) rfl (fun K hK => ?_) ?_
    rotate_left 1
    · exact AllReadyH.nil
    go_simp
    go_at_call 23; refine HC1.out.mono ?_; rintro e w3 ⟨v3, rfl, ho3, hF3, hg3⟩
    have hx3 := (hg3.block w.heap.size (by rw [hsz1]; omega) (fun e => by have := Option.some.inj e; omega)).trans HX1.out
    have HX3 := Lib.hid hx3
    have HF3 := Lib.hid hF3
    have HG3 := Lib.hid hg3
    have HO3 := Lib.hid ho3
    have HD3 := Lib.hid (keep_d HB1.out.f HB1.out.d hg3)
    have hz3 : w.heap.size < w3.heap.size := (Array.getElem?_eq_some_iff.1 hx3).1
    clear hx3 hF3 hg3 ho3
    refine hK.out _ _ ?_ (fun hHeld5 => ?_)
    · exact HSK.out _ HX3.out
    clear hK K
    (try simp only [Act.put, List.setIfInBounds_toArray, List.set_cons_zero, List.set_cons_succ])
    refine wpAnyH_ready (rs := [11]) (by kernel_rfl) (by simp) ?_
    refine AllReadyH.cons (o := { dst := some 22, op := Op.call { callee := Callee.value (Operand.func 27), args := #[Operand.tmp 17, Operand.tmp 19, Operand.tmp 21], argTypes := #[39, 33, 3] }, type := 24, pos := "law.go:59", after := #[{ on := 6, ground := Ground.data }, { on := 8, ground := Ground.data }, { on := 10, ground := Ground.data }, { on := 5, ground := Ground.chain }], guard := none }) rfl (fun K hK => ?_) ?_
    rotate_left 1
    · exact AllReadyH.nil
    go_simp
    go_at_call 27; refine (HC2.out w3 HD3.out).mono ?_; rintro e w4 ⟨v4, rfl, ho4, hF4, hg4⟩
    have hx4 := (hg4.block w.heap.size hz3 (fun e => by have := Option.some.inj e; omega)).trans HX3.out
    have HX4 := Lib.hid hx4
    have HF4 := Lib.hid hF4
    have HG4 := Lib.hid hg4
    have HO4 := Lib.hid ho4
    have HO34 := Lib.hid (own_grown HO3.out hg4 (fun k hk e => by have := (HO3.out.lt k hk).1; rw [hsz1] at this; have := Option.some.inj e; omega))
    have hz4 : w.heap.size < w4.heap.size := (Array.getElem?_eq_some_iff.1 hx4).1
    clear hx4 hF4 hg4 ho4
    refine hK.out _ _ ?_ (fun hHeld11 => ?_)
    · exact HSK.out _ HX4.out
    clear hK K
    (try simp only [Act.put, List.setIfInBounds_toArray, List.set_cons_zero, List.set_cons_succ])
    refine wpAnyH_ready (rs := [12]) (by kernel_rfl) (by simp) ?_
    refine AllReadyH.cons (o := { dst := some 23, op := Op.call { callee := Callee.value (Operand.func 14), args := #[Operand.tmp 16, Operand.tmp 22], argTypes := #[24, 24] }, type := 4, pos := "law.go:59", after := #[{ on := 5, ground := Ground.data }, { on := 11, ground := Ground.data }, { on := 11, ground := Ground.chain }], guard := none }) rfl (fun K hK => ?_) ?_
    rotate_left 1
    · exact AllReadyH.nil
    go_simp
    go_at_call 14; refine (sameE_true v3 v4 A.1 (by omega) w4 (ESl.of_own HO34.out) (ESl.of_own HO4.out)).mono ?_; rintro e w5 ⟨rfl, hb5⟩
    have HX5 := Lib.hid ((hb5.block w.heap.size hz4).trans HX4.out)
    obtain ⟨hBo5, hFr5⟩ := HChain.out A w3 w4 w5 HF3.out HG3.out HF4.out HG4.out hb5
    have HBo5 := Lib.hid hBo5
    have HFr5 := Lib.hid hFr5
    clear hBo5 hFr5 hb5
    refine hK.out _ _ ?_ (fun hHeld12 => ?_)
    · exact HSK.out _ HX5.out
    clear hK K
    (try simp only [Act.put, List.setIfInBounds_toArray, List.set_cons_zero, List.set_cons_succ])
    refine wpAnyH_take (i := 13) (oi := { dst := some 7, op := Op.assign (Operand.tmp 23), type := 4, pos := "law.go:59", after := #[{ on := 12, ground := Ground.data }, { on := 12, ground := Ground.chain }, { on := 0, ground := Ground.phase }, { on := 1, ground := Ground.phase }, { on := 2, ground := Ground.phase }, { on := 3, ground := Ground.phase }, { on := 4, ground := Ground.phase }, { on := 5, ground := Ground.phase }, { on := 6, ground := Ground.phase }, { on := 7, ground := Ground.phase }, { on := 8, ground := Ground.phase }, { on := 9, ground := Ground.phase }, { on := 10, ground := Ground.phase }, { on := 11, ground := Ground.phase }, { on := 12, ground := Ground.phase }], guard := none }) (v := ?_) rfl (by kernel_rfl) (by kernel_rfl) (by kernel_rfl) (fun _ _ _ h => h) (Or.inl ⟨by rfl, ?_⟩) (by assumption) ?_
    rotate_left 1
    · intro w hSw
      (try dsimp only at hSw)
      go_simp
      try with_reducible rfl
    (try simp only [Act.put, List.setIfInBounds_toArray, List.set_cons_zero, List.set_cons_succ])
    refine wpAnyH_done (by kernel_rfl) ?_ _
    go_wp2_with fail
    refine (Reads_calls b1 f1 h l _ w5 HBo5.out.f).mono ?_
    rintro e w6 ⟨rfl, hw6⟩
    subst hw6
    go_wp2_with fail
    refine (RReads_calls b2 f2 h l _ w6 HBo5.out.d).mono ?_
    rintro e w7 ⟨rfl, hw7⟩
    subst hw7
    go_wp2
    go_ret
    exact ⟨A.2, rfl, HBo5.out, hA2, hA3, HFr5.out⟩
end Go.Proofs.YtihgjihdmlomaaaDoor

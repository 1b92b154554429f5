/-
  WALK: the law BlockLists returns true.
-/
import Derived.Test.YtihgjihdmlomaaaDoorJBxI
namespace Go.Proofs.YtihgjihdmlomaaaDoor
open Go.RowKit ArgK
set_option linter.unusedVariables false

/-- At the head of each round. -/
def LlRel (w : World) (B bx tb : Nat) (BX TB : Obj) (b1 f1 b2 f2 : Nat) (h : Hd) (l : List Ent) (k : Nat) (ov : Value) (wr : World) : Prop :=
  ∃ r Vs, k ≤ 5 ∧ Vs.length = 3 * k ∧ r ≤ 1000000 * k ∧ Cy w wr B bx tb BX TB b1 f1 b2 f2 h l r r ov Vs []

set_option maxRecDepth 100000 in
set_option maxHeartbeats 8000000 in
theorem BlockLists_walk (b : ByteArray) (sb : b.size ≤ 140737488351232) (sa1 : Array Value) (x0 : Ent × Int) (w : World) (h1 : IsAsk sa1.toList x0) (hL : TabLaid w) (hbulk : b.size ≤ 1048576) :
    Calls Tryd.prog 7 #[.string b, .agg sa1] w fun e w' => e = .returned (.bool true) ∧ Below w.heap.size w w' := by
  obtain ⟨rfl, hm0⟩ := ask_arg h1
  have hT := tab_of_laid hL
  obtain ⟨i1, hj, hy0, hy1, hy2⟩ := info_parts entsinfo
  have hbA : Below w.heap.size w (w.alloc (.cells #[.int .i64 x0.1.v, .string x0.1.c, .int .i64 x0.1.i, .int .i64 x0.1.s, .bool x0.1.d, .int .i64 x0.2] 44)) := (Below.refl _ w).alloc (Nat.le_refl _) _
  have HCO := Lib.hid (Opens_calls b hbulk _ (hT.below hbA))
  have HCR := Lib.hid (fun W => ROpen_calls b hbulk W)
  have HBA := Lib.hid hbA
  have HXA := Lib.hid (World.alloc_heap_new w (.cells #[.int .i64 x0.1.v, .string x0.1.c, .int .i64 x0.1.i, .int .i64 x0.1.s, .bool x0.1.d, .int .i64 x0.2] 44))
  clear h1 hL hT hbA
  go_enter Tryd.func7, Tryd.ntmps7
  go_wp2_with fail
  refine HCO.out.mono ?_
  rintro e w1 hor1
  cases ho : openR b.data.toList with
  | none =>
    obtain ⟨rfl, hb1⟩ := open_no' ho hor1
    have HB1 := Lib.hid (HBA.out.trans (hb1.mono HBA.out.size))
    clear hor1 hb1
    go_wp2_with fail
    refine (HCR.out w1).mono ?_
    rintro e w2 hor2
    obtain ⟨rfl, hb2⟩ := ropen_no' ho hor2
    have HB2 := Lib.hid (HB1.out.trans (hb2.mono HB1.out.size))
    clear hor2 hb2
    go_wp2
    go_ret
    exact ⟨rfl, HB2.out⟩
  | some q =>
    obtain ⟨h, l⟩ := q
    have hgo := (openR_some ho).1
    obtain ⟨f1, rfl, hF1, hb1⟩ := open_yes' ho hor1
    have HF1 := Lib.hid hF1
    have HB1 := Lib.hid hb1
    clear hor1 hb1 hF1
    go_wp2_with fail
    refine (HCR.out w1).mono ?_
    rintro e w2 hor2
    obtain ⟨f2, rfl, hF2, hb2⟩ := ropen_yes' ho hor2
    have hl := (goesR_good hgo).2.1
    obtain ⟨Bm, hBm⟩ : ∃ B, w2.heap.size + 1 = B := ⟨_, rfl⟩
    have hw1 : w.heap.size + 1 ≤ w1.heap.size := by have := HB1.out.size; simp at this; omega
    have hw2 := hb2.size
    have hff1 := HF1.out.le
    have hff2 := hF2.le
    have hfl1 : f1 < w1.heap.size := by
      obtain ⟨_, _, _, _, q, _⟩ := HF1.out
      exact (Array.getElem?_eq_some_iff.1 q).1
    have hfl2 := hF2.lt
    simp only [World.size_alloc] at hff1
    have HBX : Hid (∀ W : World, W.heap[w.heap.size]? = some (.cells #[.int .i64 x0.1.v, .string x0.1.c, .int .i64 x0.1.i, .int .i64 x0.1.s, .bool x0.1.d, .int .i64 x0.2] 44 (0, 0)) → W.cell? ⟨w.heap.size, 0, none⟩ = some (.int .i64 x0.1.v) ∧ W.cell? ⟨w.heap.size, 1, none⟩ = some (.string x0.1.c) ∧ W.cell? ⟨w.heap.size, 2, none⟩ = some (.int .i64 x0.1.i) ∧ W.cell? ⟨w.heap.size, 3, none⟩ = some (.int .i64 x0.1.s) ∧ W.cell? ⟨w.heap.size, 4, none⟩ = some (.bool x0.1.d) ∧ W.cell? ⟨w.heap.size, 5, none⟩ = some (.int .i64 x0.2)) := Lib.hid (fun W hW => cells6 hW)
    have hx1 := (HB1.out.block w.heap.size (by simp)).trans HXA.out
    have hx2 := (hb2.block w.heap.size (by omega)).trans hx1
    have H0 : Hid (LlRel w Bm w.heap.size w2.heap.size (.cells #[.int .i64 x0.1.v, .string x0.1.c, .int .i64 x0.1.i, .int .i64 x0.1.s, .bool x0.1.d, .int .i64 x0.2] 44 (0, 0)) (turnsO x0) (w.heap.size + 1) f1 w1.heap.size f2 h l 0 (.slice none 0 0) (w2.alloc (turnsO x0))) := Lib.hid (by
      have hbT : Below w2.heap.size w2 (w2.alloc (turnsO x0)) := (Below.refl _ w2).alloc (Nat.le_refl _) _
      have hb02 := (HBA.out.trans (HB1.out.mono HBA.out.size)).trans (hb2.mono (HBA.out.trans (HB1.out.mono HBA.out.size)).size)
      have hF1b := HF1.out.below hb2
      simp only [World.size_alloc] at hF1b
      refine ⟨0, [], by omega, rfl, by omega, ⟨Ct.start (hF1b.below hbT) (hF2.below hbT) (by simp; omega), ⟨World.ownsRow_nil _ _ _ _, fun x hx => by simp at hx, List.Pairwise.nil⟩, (hbT.block _ (by omega)).trans hx2, World.alloc_heap_new _ _, hb02.trans (hbT.mono hb02.size), by simp; omega, fun x hx => by simp at hx, ⟨by omega, by omega, by omega, by omega⟩, ⟨by omega, by omega⟩, by omega, by omega, by omega⟩⟩)
    have HGo := Lib.hid hgo
    obtain ⟨z0, z1, z2, z3, z4, z5⟩ := HBX.out w2 hx2
    have hbu1 : ∀ W : World, (Instr.build 33 #[(0, .int .i64 1)]).run Tryd.prog W = .ok (.agg #[.int .i64 1, .string ⟨#[]⟩, .int .i64 0, .int .i64 0, .bool false]) W := fun W => run_build W _ _ _ (by kernel_rfl)
    have hbu2 : ∀ W : World, (Instr.build 44 #[(0, .agg #[.int .i64 1, .string ⟨#[]⟩, .int .i64 0, .int .i64 0, .bool false]), (1, .int .i64 2)]).run Tryd.prog W = .ok (.agg #[.int .i64 1, .string ⟨#[]⟩, .int .i64 0, .int .i64 0, .bool false, .int .i64 2]) W := fun W => run_build W _ _ _ (by kernel_rfl)
    obtain ⟨tb, htb⟩ : ∃ q, w2.heap.size = q := ⟨_, rfl⟩
    obtain ⟨B2, hB2⟩ : ∃ q, w1.heap.size = q := ⟨_, rfl⟩
    have hbxt : w.heap.size < tb := by omega
    clear hb2 hF2 hor2 HF1 HB1 HBA HXA hx1 hx2 ho hgo hff1 hff2 hfl1 hfl2 hw1 hw2 HCR HCO
    unfold turnsO at H0
    go_wp2
    rw [htb, hB2] at H0
    try rw [htb]
    clear htb hB2
    go_loopw [10, 11] (fun ov iv wr => ∃ k : Nat, iv = .int .i64 k ∧ LlRel w Bm w.heap.size tb (.cells #[.int .i64 x0.1.v, .string x0.1.c, .int .i64 x0.1.i, .int .i64 x0.1.s, .bool x0.1.d, .int .i64 x0.2] 44 (0, 0)) (turnsO x0) (w.heap.size + 1) f1 B2 f2 h l k ov wr) (fun _ iv _ => 5 - (intOf iv).toNat)
    case atStart => exact ⟨0, rfl, H0.out⟩
    case round =>
      obtain ⟨k, rfl, r, Vs, hk, hvl, hr, hcy⟩ := hrel
      have HC := Lib.hid hcy
      clear hcy
      by_cases hlt : k < 5
      · obtain ⟨y, hy⟩ : ∃ y, (turnsL x0)[k]? = some y := ⟨_, List.getElem?_eq_getElem (by show k < 5; exact hlt)⟩
        have hym := turns_most hm0 hy
        have HSK : Hid (∀ W : World, W.heap[tb]? = some (turnsO x0) → W.cell? ⟨tb, k * 6, none⟩ = some (.int .i64 y.1.v) ∧ W.cell? ⟨tb, k * 6 + 1, none⟩ = some (.string y.1.c) ∧ W.cell? ⟨tb, k * 6 + 2, none⟩ = some (.int .i64 y.1.i) ∧ W.cell? ⟨tb, k * 6 + 3, none⟩ = some (.int .i64 y.1.s) ∧ W.cell? ⟨tb, k * 6 + 4, none⟩ = some (.bool y.1.d) ∧ W.cell? ⟨tb, k * 6 + 5, none⟩ = some (.int .i64 y.2)) := Lib.hid (fun W hW => turns_at hW hy)
        obtain ⟨s1, hp1⟩ := part_ex HGo.out (plE y.1.v)
        obtain ⟨s2, hp2⟩ := part_ex HGo.out y.1
        obtain ⟨A1, hA1⟩ : ∃ A, findA y.1.v (groups l) s1 r = A := ⟨_, rfl⟩
        obtain ⟨A2, hA2⟩ : ∃ A, fromA y.1 y.2 (groups l) s2 A1.2 = A := ⟨_, rfl⟩
        obtain ⟨ha1, ha2, ha3⟩ := findA_len HGo.out y.1.v s1 r
        obtain ⟨hc1, hc2, hc3⟩ := fromA_len HGo.out y.1 y.2 hp2 A1.2
        rw [hA1] at ha1 ha2 ha3
        rw [hA2] at hc1 hc2 hc3
        have HPF := Lib.hid (fun W hW => PFindX (w.heap.size + 1) f1 h l r y.1.v s1 W hW HGo.out (by omega) hp1)
        have HRF := Lib.hid (fun W hW => RFindX B2 f2 h l r y.1.v s1 W hW HGo.out (by omega) hp1)
        have HPO := Lib.hid (fun W hW => PFromX (w.heap.size + 1) f1 h l A1.2 y.1 y.2 hym s2 W hW HGo.out (by omega) hp2)
        have HRO := Lib.hid (fun W hW => RFromX B2 f2 h l A1.2 y.1 y.2 hym s2 W hW HGo.out (by omega) hp2)
        rw [hA1] at HPF HRF
        rw [hA2] at HPO HRO
        unfold Ent.val at HPO HRO
        have i0' : (0 : Int) ≤ (k : Int) := by omega
        have i1' : (k : Int) < 5 := by omega
        clear hp1 hp2 hy hA1 hA2
        go_wp2_with fail
        refine (All_calls _ f1 h l _ wr HC.out.ct.f hl).mono ?_
        rintro e w3 ⟨v1, rfl, ho1, hb3⟩
        have L1 : ∀ g, v1.ownBlock = some g → wr.heap.size ≤ g ∧ g < w3.heap.size := fun g hg => ho1.lt g hg
        have HC3 := Lib.hid ((HC.out.below hb3).add ho1 HC.out.sz)
        have hs3 := hb3.size
        obtain ⟨d0, d1, d2, d3, d4, d5⟩ := HSK.out _ HC3.out.ht
        clear ho1 hb3
        go_wp2_with fail
        refine (HPF.out w3 HC3.out.ct.f).mono ?_
        rintro e w4 ⟨v2, rfl, ho2, hx2, hg2⟩
        have L2 : ∀ g, v2.ownBlock = some g → w3.heap.size ≤ g ∧ g < w4.heap.size := fun g hg => ho2.lt g hg
        have HC4 := Lib.hid ((HC3.out.goF hx2 hg2).add ho2 HC3.out.sz)
        have hs4 := hg2.size
        clear ho2 hx2 hg2 d0 d1 d2 d3 d4 d5
        have HC4d := Lib.hid (HC4.out.below (Below.refl _ w4).drew)
        go_wp2
        refine wp_region_held_drew (S := (fun W => W.cell? ⟨tb, k * 6, none⟩ = some (.int .i64 y.1.v) ∧ W.cell? ⟨tb, k * 6 + 1, none⟩ = some (.string y.1.c) ∧ W.cell? ⟨tb, k * 6 + 2, none⟩ = some (.int .i64 y.1.i) ∧ W.cell? ⟨tb, k * 6 + 3, none⟩ = some (.int .i64 y.1.s) ∧ W.cell? ⟨tb, k * 6 + 4, none⟩ = some (.bool y.1.d) ∧ W.cell? ⟨tb, k * 6 + 5, none⟩ = some (.int .i64 y.2))) (by kernel_rfl) ?_ (fun hHeld => ?_)
        · exact HSK.out _ HC4d.out.ht
        refine wpAnyH_take (i := 0) (oi := { dst := some 66, op := Op.move (Operand.tmp 5), type := 36, pos := "law.go:151", after := #[], guard := none }) (v := ?_) rfl (by kernel_rfl) (by kernel_rfl) (by kernel_rfl) (fun _ _ _ h => h) (Or.inl ⟨by rfl, ?_⟩) (by assumption) ?_
        rotate_left 1
        · intro w hSw
          (try dsimp only at hSw)
          go_simp
          try with_reducible rfl
        (try simp only [Act.put, List.setIfInBounds_toArray, List.set_cons_zero, List.set_cons_succ])
        refine wpAnyH_take (i := 1) (oi := { dst := some 67, op := Op.move (Operand.tmp 9), type := 35, pos := "law.go:151", after := #[], guard := none }) (v := ?_) rfl (by kernel_rfl) (by kernel_rfl) (by kernel_rfl) (fun _ _ _ h => h) (Or.inl ⟨by rfl, ?_⟩) (by assumption) ?_
        rotate_left 1
        · intro w hSw
          (try dsimp only at hSw)
          go_simp
          try with_reducible rfl
        (try simp only [Act.put, List.setIfInBounds_toArray, List.set_cons_zero, List.set_cons_succ])
        refine wpAnyH_take (i := 2) (oi := { dst := some 68, op := Op.move (Operand.tmp 11), type := 3, pos := "law.go:151", after := #[], guard := none }) (v := ?_) rfl (by kernel_rfl) (by kernel_rfl) (by kernel_rfl) (fun _ _ _ h => h) (Or.inl ⟨by rfl, ?_⟩) (by assumption) ?_
        rotate_left 1
        · intro w hSw
          (try dsimp only at hSw)
          go_simp
          try with_reducible rfl
        (try simp only [Act.put, List.setIfInBounds_toArray, List.set_cons_zero, List.set_cons_succ])
        refine wpAnyH_take (i := 3) (oi := { dst := some 69, op := Op.indexAddr 35 (Operand.tmp 67) (Operand.tmp 68), type := 0, pos := "law.go:151", after := #[{ on := 1, ground := Ground.data }, { on := 2, ground := Ground.data }], guard := none }) (v := ?_) rfl (by kernel_rfl) (by kernel_rfl) (by kernel_rfl) (fun _ _ _ h => h) (Or.inl ⟨by rfl, ?_⟩) (by assumption) ?_
        rotate_left 1
        · intro w hSw
          (try dsimp only at hSw)
          go_simp
          try with_reducible rfl
        (try simp only [Act.put, List.setIfInBounds_toArray, List.set_cons_zero, List.set_cons_succ])
        refine wpAnyH_take (i := 4) (oi := { dst := some 70, op := Op.fieldAddr 44 (Operand.tmp 69) 0, type := 0, pos := "law.go:151", after := #[{ on := 3, ground := Ground.data }], guard := none }) (v := ?_) rfl (by kernel_rfl) (by kernel_rfl) (by kernel_rfl) (fun _ _ _ h => h) (Or.inl ⟨by rfl, ?_⟩) (by assumption) ?_
        rotate_left 1
        · intro w hSw
          (try dsimp only at hSw)
          go_simp
          try with_reducible rfl
        (try simp only [Act.put, List.setIfInBounds_toArray, List.set_cons_zero, List.set_cons_succ])
        refine wpAnyH_take (i := 5) (oi := { dst := some 71, op := Op.load 33 (Operand.tmp 70), type := 33, pos := "law.go:151", after := #[{ on := 4, ground := Ground.data }], guard := none }) (v := ?_) rfl (by kernel_rfl) (by kernel_rfl) (by kernel_rfl) (fun _ _ _ h => h) (Or.inl ⟨by rfl, ?_⟩) (by assumption) ?_
        rotate_left 1
        · intro w hSw
          (try dsimp only at hSw)
          go_simp
          try with_reducible rfl
        (try simp only [Act.put, List.setIfInBounds_toArray, List.set_cons_zero, List.set_cons_succ])
        refine wpAnyH_take (i := 6) (oi := { dst := some 72, op := Op.move (Operand.tmp 9), type := 35, pos := "law.go:151", after := #[], guard := none }) (v := ?_) rfl (by kernel_rfl) (by kernel_rfl) (by kernel_rfl) (fun _ _ _ h => h) (Or.inl ⟨by rfl, ?_⟩) (by assumption) ?_
        rotate_left 1
        · intro w hSw
          (try dsimp only at hSw)
          go_simp
          try with_reducible rfl
        (try simp only [Act.put, List.setIfInBounds_toArray, List.set_cons_zero, List.set_cons_succ])
        refine wpAnyH_take (i := 7) (oi := { dst := some 73, op := Op.move (Operand.tmp 11), type := 3, pos := "law.go:151", after := #[], guard := none }) (v := ?_) rfl (by kernel_rfl) (by kernel_rfl) (by kernel_rfl) (fun _ _ _ h => h) (Or.inl ⟨by rfl, ?_⟩) (by assumption) ?_
        rotate_left 1
        · intro w hSw
          (try dsimp only at hSw)
          go_simp
          try with_reducible rfl
        (try simp only [Act.put, List.setIfInBounds_toArray, List.set_cons_zero, List.set_cons_succ])
        refine wpAnyH_take (i := 8) (oi := { dst := some 74, op := Op.indexAddr 35 (Operand.tmp 72) (Operand.tmp 73), type := 0, pos := "law.go:151", after := #[{ on := 6, ground := Ground.data }, { on := 7, ground := Ground.data }], guard := none }) (v := ?_) rfl (by kernel_rfl) (by kernel_rfl) (by kernel_rfl) (fun _ _ _ h => h) (Or.inl ⟨by rfl, ?_⟩) (by assumption) ?_
        rotate_left 1
        · intro w hSw
          (try dsimp only at hSw)
          go_simp
          try with_reducible rfl
        (try simp only [Act.put, List.setIfInBounds_toArray, List.set_cons_zero, List.set_cons_succ])
        refine wpAnyH_take (i := 9) (oi := { dst := some 75, op := Op.fieldAddr 44 (Operand.tmp 74) 1, type := 0, pos := "law.go:151", after := #[{ on := 8, ground := Ground.data }], guard := none }) (v := ?_) rfl (by kernel_rfl) (by kernel_rfl) (by kernel_rfl) (fun _ _ _ h => h) (Or.inl ⟨by rfl, ?_⟩) (by assumption) ?_
        rotate_left 1
        · intro w hSw
          (try dsimp only at hSw)
          go_simp
          try with_reducible rfl
        (try simp only [Act.put, List.setIfInBounds_toArray, List.set_cons_zero, List.set_cons_succ])
        refine wpAnyH_take (i := 10) (oi := { dst := some 76, op := Op.load 3 (Operand.tmp 75), type := 3, pos := "law.go:151", after := #[{ on := 9, ground := Ground.data }], guard := none }) (v := ?_) rfl (by kernel_rfl) (by kernel_rfl) (by kernel_rfl) (fun _ _ _ h => h) (Or.inl ⟨by rfl, ?_⟩) (by assumption) ?_
        rotate_left 1
        · intro w hSw
          (try dsimp only at hSw)
          go_simp
          try with_reducible rfl
        (try simp only [Act.put, List.setIfInBounds_toArray, List.set_cons_zero, List.set_cons_succ])
        refine wpAnyH_ready (rs := [11]) (by kernel_rfl) (by simp) ?_
        refine AllReadyH.cons (o := { dst := some 77, op := Op.call { callee := Callee.value (Operand.func 23), args := #[Operand.tmp 66, Operand.tmp 71, Operand.tmp 76], argTypes := #[36, 33, 3] }, type := 24, pos := "law.go:151", after := #[{ on := 0, ground := Ground.data }, { on := 5, ground := Ground.data }, { on := 10, ground := Ground.data }], guard := none }) rfl (fun K hK => ?_) ?_
        rotate_left 1
        · exact AllReadyH.nil
        go_simp
        go_at_call 23; refine (HPO.out w4.drew HC4d.out.ct.f).mono ?_; rintro e w5 ⟨v3, rfl, ho3, hx3, hg3⟩; obtain ⟨p3, c3, hv3, _⟩ := own_rd ho3; subst hv3; have L3 : ∀ g, (Value.slice p3 A2.1.length c3).ownBlock = some g → w4.heap.size ≤ g ∧ g < w5.heap.size := (fun g hg => ho3.lt g hg); have HC5 := Lib.hid ((HC4d.out.goF hx3 hg3).add ho3 HC4d.out.sz); clear ho3 hx3 hg3
        refine hK.out _ _ ?_ (fun hHeld11 => ?_)
        · exact HSK.out _ HC5.out.ht
        clear hK K
        (try simp only [Act.put, List.setIfInBounds_toArray, List.set_cons_zero, List.set_cons_succ])
        refine wpAnyH_take (i := 12) (oi := { dst := some 14, op := Op.assign (Operand.tmp 77), type := 24, pos := "law.go:151", after := #[{ on := 11, ground := Ground.data }, { on := 11, ground := Ground.chain }, { on := 0, ground := Ground.phase }, { on := 1, ground := Ground.phase }, { on := 2, ground := Ground.phase }, { on := 3, ground := Ground.phase }, { on := 4, ground := Ground.phase }, { on := 5, ground := Ground.phase }, { on := 6, ground := Ground.phase }, { on := 7, ground := Ground.phase }, { on := 8, ground := Ground.phase }, { on := 9, ground := Ground.phase }, { on := 10, ground := Ground.phase }, { on := 11, ground := Ground.phase }], guard := none }) (v := ?_) rfl (by kernel_rfl) (by kernel_rfl) (by kernel_rfl) (fun _ _ _ h => h) (Or.inl ⟨by rfl, ?_⟩) (by assumption) ?_
        rotate_left 1
        · intro w hSw
          (try dsimp only at hSw)
          go_simp
          try with_reducible rfl
        (try simp only [Act.put, List.setIfInBounds_toArray, List.set_cons_zero, List.set_cons_succ])
        refine wpAnyH_done (by kernel_rfl) ?_ _
        clear hHeld hHeld11
        go_wp2_with fail
        refine (RAll_calls _ f2 h l _ w5 HC5.out.ct.d hl).mono ?_
        rintro e w6 ⟨va, rfl, hoa, hba⟩
        have HC6 := Lib.hid ((HC5.out.below hba).add hoa HC5.out.sz)
        clear hoa hba
        go_wp2_with fail
        refine (sameE_true v1 va l (by omega) w6 (HC6.out.es (by simp)) (HC6.out.es (by simp))).mono ?_
        rintro e w7 ⟨rfl, hbs⟩
        have HC7 := Lib.hid (HC6.out.below hbs)
        clear hbs
        obtain ⟨d0, d1, d2, d3, d4, d5⟩ := HSK.out _ HC7.out.ht
        go_wp2_with fail
        refine (HRF.out w7 HC7.out.ct.d).mono ?_
        rintro e w8 ⟨vb, rfl, hob, hxb, hgb⟩
        have HC8 := Lib.hid ((HC7.out.goD hxb hgb).add hob HC7.out.sz)
        clear hob hxb hgb
        clear d0 d1 d2 d3 d4 d5
        go_wp2_with fail
        refine (sameE_true v2 vb A1.1 (by omega) w8 (HC8.out.es (by simp)) (HC8.out.es (by simp))).mono ?_
        rintro e w9 ⟨rfl, hbs⟩
        have HC9 := Lib.hid (HC8.out.below hbs)
        clear hbs
        have HC9d := Lib.hid (HC9.out.below (Below.refl _ w9).drew)
        go_wp2
        refine wp_region_held_drew (S := (fun W => W.cell? ⟨tb, k * 6, none⟩ = some (.int .i64 y.1.v) ∧ W.cell? ⟨tb, k * 6 + 1, none⟩ = some (.string y.1.c) ∧ W.cell? ⟨tb, k * 6 + 2, none⟩ = some (.int .i64 y.1.i) ∧ W.cell? ⟨tb, k * 6 + 3, none⟩ = some (.int .i64 y.1.s) ∧ W.cell? ⟨tb, k * 6 + 4, none⟩ = some (.bool y.1.d) ∧ W.cell? ⟨tb, k * 6 + 5, none⟩ = some (.int .i64 y.2))) (by kernel_rfl) ?_ (fun hHeld => ?_)
        · exact HSK.out _ HC9d.out.ht
        refine wpAnyH_take (i := 0) (oi := { dst := some 92, op := Op.move (Operand.tmp 14), type := 24, pos := "law.go:154", after := #[], guard := none }) (v := ?_) rfl (by kernel_rfl) (by kernel_rfl) (by kernel_rfl) (fun _ _ _ h => h) (Or.inl ⟨by rfl, ?_⟩) (by assumption) ?_
        rotate_left 1
        · intro w hSw
          (try dsimp only at hSw)
          go_simp
          try with_reducible rfl
        (try simp only [Act.put, List.setIfInBounds_toArray, List.set_cons_zero, List.set_cons_succ])
        refine wpAnyH_take (i := 1) (oi := { dst := some 93, op := Op.move (Operand.tmp 7), type := 39, pos := "law.go:154", after := #[], guard := none }) (v := ?_) rfl (by kernel_rfl) (by kernel_rfl) (by kernel_rfl) (fun _ _ _ h => h) (Or.inl ⟨by rfl, ?_⟩) (by assumption) ?_
        rotate_left 1
        · intro w hSw
          (try dsimp only at hSw)
          go_simp
          try with_reducible rfl
        (try simp only [Act.put, List.setIfInBounds_toArray, List.set_cons_zero, List.set_cons_succ])
        refine wpAnyH_take (i := 2) (oi := { dst := some 94, op := Op.move (Operand.tmp 9), type := 35, pos := "law.go:154", after := #[], guard := none }) (v := ?_) rfl (by kernel_rfl) (by kernel_rfl) (by kernel_rfl) (fun _ _ _ h => h) (Or.inl ⟨by rfl, ?_⟩) (by assumption) ?_
        rotate_left 1
        · intro w hSw
          (try dsimp only at hSw)
          go_simp
          try with_reducible rfl
        (try simp only [Act.put, List.setIfInBounds_toArray, List.set_cons_zero, List.set_cons_succ])
        refine wpAnyH_take (i := 3) (oi := { dst := some 95, op := Op.move (Operand.tmp 11), type := 3, pos := "law.go:154", after := #[], guard := none }) (v := ?_) rfl (by kernel_rfl) (by kernel_rfl) (by kernel_rfl) (fun _ _ _ h => h) (Or.inl ⟨by rfl, ?_⟩) (by assumption) ?_
        rotate_left 1
        · intro w hSw
          (try dsimp only at hSw)
          go_simp
          try with_reducible rfl
        (try simp only [Act.put, List.setIfInBounds_toArray, List.set_cons_zero, List.set_cons_succ])
        refine wpAnyH_take (i := 4) (oi := { dst := some 96, op := Op.indexAddr 35 (Operand.tmp 94) (Operand.tmp 95), type := 0, pos := "law.go:154", after := #[{ on := 2, ground := Ground.data }, { on := 3, ground := Ground.data }], guard := none }) (v := ?_) rfl (by kernel_rfl) (by kernel_rfl) (by kernel_rfl) (fun _ _ _ h => h) (Or.inl ⟨by rfl, ?_⟩) (by assumption) ?_
        rotate_left 1
        · intro w hSw
          (try dsimp only at hSw)
          go_simp
          try with_reducible rfl
        (try simp only [Act.put, List.setIfInBounds_toArray, List.set_cons_zero, List.set_cons_succ])
        refine wpAnyH_take (i := 5) (oi := { dst := some 97, op := Op.fieldAddr 44 (Operand.tmp 96) 0, type := 0, pos := "law.go:154", after := #[{ on := 4, ground := Ground.data }], guard := none }) (v := ?_) rfl (by kernel_rfl) (by kernel_rfl) (by kernel_rfl) (fun _ _ _ h => h) (Or.inl ⟨by rfl, ?_⟩) (by assumption) ?_
        rotate_left 1
        · intro w hSw
          (try dsimp only at hSw)
          go_simp
          try with_reducible rfl
        (try simp only [Act.put, List.setIfInBounds_toArray, List.set_cons_zero, List.set_cons_succ])
        refine wpAnyH_take (i := 6) (oi := { dst := some 98, op := Op.load 33 (Operand.tmp 97), type := 33, pos := "law.go:154", after := #[{ on := 5, ground := Ground.data }], guard := none }) (v := ?_) rfl (by kernel_rfl) (by kernel_rfl) (by kernel_rfl) (fun _ _ _ h => h) (Or.inl ⟨by rfl, ?_⟩) (by assumption) ?_
        rotate_left 1
        · intro w hSw
          (try dsimp only at hSw)
          go_simp
          try with_reducible rfl
        (try simp only [Act.put, List.setIfInBounds_toArray, List.set_cons_zero, List.set_cons_succ])
        refine wpAnyH_take (i := 7) (oi := { dst := some 99, op := Op.move (Operand.tmp 9), type := 35, pos := "law.go:154", after := #[], guard := none }) (v := ?_) rfl (by kernel_rfl) (by kernel_rfl) (by kernel_rfl) (fun _ _ _ h => h) (Or.inl ⟨by rfl, ?_⟩) (by assumption) ?_
        rotate_left 1
        · intro w hSw
          (try dsimp only at hSw)
          go_simp
          try with_reducible rfl
        (try simp only [Act.put, List.setIfInBounds_toArray, List.set_cons_zero, List.set_cons_succ])
        refine wpAnyH_take (i := 8) (oi := { dst := some 100, op := Op.move (Operand.tmp 11), type := 3, pos := "law.go:154", after := #[], guard := none }) (v := ?_) rfl (by kernel_rfl) (by kernel_rfl) (by kernel_rfl) (fun _ _ _ h => h) (Or.inl ⟨by rfl, ?_⟩) (by assumption) ?_
        rotate_left 1
        · intro w hSw
          (try dsimp only at hSw)
          go_simp
          try with_reducible rfl
        (try simp only [Act.put, List.setIfInBounds_toArray, List.set_cons_zero, List.set_cons_succ])
        refine wpAnyH_take (i := 9) (oi := { dst := some 101, op := Op.indexAddr 35 (Operand.tmp 99) (Operand.tmp 100), type := 0, pos := "law.go:154", after := #[{ on := 7, ground := Ground.data }, { on := 8, ground := Ground.data }], guard := none }) (v := ?_) rfl (by kernel_rfl) (by kernel_rfl) (by kernel_rfl) (fun _ _ _ h => h) (Or.inl ⟨by rfl, ?_⟩) (by assumption) ?_
        rotate_left 1
        · intro w hSw
          (try dsimp only at hSw)
          go_simp
          try with_reducible rfl
        (try simp only [Act.put, List.setIfInBounds_toArray, List.set_cons_zero, List.set_cons_succ])
        refine wpAnyH_take (i := 10) (oi := { dst := some 102, op := Op.fieldAddr 44 (Operand.tmp 101) 1, type := 0, pos := "law.go:154", after := #[{ on := 9, ground := Ground.data }], guard := none }) (v := ?_) rfl (by kernel_rfl) (by kernel_rfl) (by kernel_rfl) (fun _ _ _ h => h) (Or.inl ⟨by rfl, ?_⟩) (by assumption) ?_
        rotate_left 1
        · intro w hSw
          (try dsimp only at hSw)
          go_simp
          try with_reducible rfl
        (try simp only [Act.put, List.setIfInBounds_toArray, List.set_cons_zero, List.set_cons_succ])
        refine wpAnyH_take (i := 11) (oi := { dst := some 103, op := Op.load 3 (Operand.tmp 102), type := 3, pos := "law.go:154", after := #[{ on := 10, ground := Ground.data }], guard := none }) (v := ?_) rfl (by kernel_rfl) (by kernel_rfl) (by kernel_rfl) (fun _ _ _ h => h) (Or.inl ⟨by rfl, ?_⟩) (by assumption) ?_
        rotate_left 1
        · intro w hSw
          (try dsimp only at hSw)
          go_simp
          try with_reducible rfl
        (try simp only [Act.put, List.setIfInBounds_toArray, List.set_cons_zero, List.set_cons_succ])
        refine wpAnyH_ready (rs := [12]) (by kernel_rfl) (by simp) ?_
        refine AllReadyH.cons (o := { dst := some 104, op := Op.call { callee := Callee.value (Operand.func 27), args := #[Operand.tmp 93, Operand.tmp 98, Operand.tmp 103], argTypes := #[39, 33, 3] }, type := 24, pos := "law.go:154", after := #[{ on := 1, ground := Ground.data }, { on := 6, ground := Ground.data }, { on := 11, ground := Ground.data }], guard := none }) rfl (fun K hK => ?_) ?_
        rotate_left 1
        · exact AllReadyH.nil
        go_simp
        go_at_call 27; refine (HRO.out w9.drew HC9d.out.ct.d).mono ?_; rintro e w10 ⟨vc, rfl, hoc, hxc, hgc⟩; have HC10 := Lib.hid ((HC9d.out.goD hxc hgc).add hoc HC9d.out.sz); clear hoc hxc hgc
        refine hK.out _ _ ?_ (fun hHeld12 => ?_)
        · exact HSK.out _ HC10.out.ht
        clear hK K
        (try simp only [Act.put, List.setIfInBounds_toArray, List.set_cons_zero, List.set_cons_succ])
        refine wpAnyH_ready (rs := [13]) (by kernel_rfl) (by simp) ?_
        refine AllReadyH.cons (o := { dst := some 105, op := Op.call { callee := Callee.value (Operand.func 14), args := #[Operand.tmp 92, Operand.tmp 104], argTypes := #[24, 24] }, type := 4, pos := "law.go:154", after := #[{ on := 0, ground := Ground.data }, { on := 12, ground := Ground.data }, { on := 12, ground := Ground.chain }], guard := none }) rfl (fun K hK => ?_) ?_
        rotate_left 1
        · exact AllReadyH.nil
        go_simp
        go_at_call 14; refine (sameE_true (.slice p3 A2.1.length c3) vc A2.1 (by omega) w10 (HC10.out.es (by simp)) (HC10.out.es (by simp))).mono ?_; rintro e w11 ⟨rfl, hbs⟩; have HC11 := Lib.hid (HC10.out.below hbs); clear hbs
        refine hK.out _ _ ?_ (fun hHeld13 => ?_)
        · exact HSK.out _ HC11.out.ht
        clear hK K
        (try simp only [Act.put, List.setIfInBounds_toArray, List.set_cons_zero, List.set_cons_succ])
        refine wpAnyH_take (i := 14) (oi := { dst := some 17, op := Op.assign (Operand.tmp 105), type := 4, pos := "law.go:154", after := #[{ on := 13, ground := Ground.data }, { on := 13, ground := Ground.chain }, { on := 0, ground := Ground.phase }, { on := 1, ground := Ground.phase }, { on := 2, ground := Ground.phase }, { on := 3, ground := Ground.phase }, { on := 4, ground := Ground.phase }, { on := 5, ground := Ground.phase }, { on := 6, ground := Ground.phase }, { on := 7, ground := Ground.phase }, { on := 8, ground := Ground.phase }, { on := 9, ground := Ground.phase }, { on := 10, ground := Ground.phase }, { on := 11, ground := Ground.phase }, { on := 12, ground := Ground.phase }, { on := 13, ground := Ground.phase }], guard := none }) (v := ?_) rfl (by kernel_rfl) (by kernel_rfl) (by kernel_rfl) (fun _ _ _ h => h) (Or.inl ⟨by rfl, ?_⟩) (by assumption) ?_
        rotate_left 1
        · intro w hSw
          (try dsimp only at hSw)
          go_simp
          try with_reducible rfl
        (try simp only [Act.put, List.setIfInBounds_toArray, List.set_cons_zero, List.set_cons_succ])
        refine wpAnyH_done (by kernel_rfl) ?_ _
        clear hHeld hHeld12 hHeld13
        obtain ⟨p1, c1, hv1, _⟩ := own_rd (HC11.out.rs (v1, l) (by simp))
        obtain ⟨p2, c2, hv2, _⟩ := own_rd (HC11.out.rs (v2, A1.1) (by simp))
        simp only at hv1 hv2
        obtain ⟨op, oc, hov, _⟩ := own_rd HC11.out.q.1
        subst hv1 hv2 hov
        have hq := Lib.hid (HC11.out.q.1.alloc (.cells #[.slice p1 l.length c1, .slice p2 A1.1.length c2, .slice p3 A2.1.length c3] 24))
        have hnews := Lib.hid (World.news_of_block (World.alloc_heap_new w11 (.cells #[.slice p1 l.length c1, .slice p2 A1.1.length c2, .slice p3 A2.1.length c3] 24)))
        have hszB := HC11.out.sz
        have hle1 : Vs.length ≤ 12 := by omega
        go_wp2_with (at_builtin; refine wpList_append_own _ rfl _ _ 55 rfl Bm 24 i1 _ 1 24 Tryd.underlying55 hj hy0 hy1 hy2 rfl (by decide) (.slice op Vs.length oc) Vs.length _ rfl hq.out ⟨w11.heap.size, 0, none⟩ 3 3 [.slice p1 l.length c1, .slice p2 A1.1.length c2, .slice p3 A2.1.length c3] rfl rfl hnews.out (by simp [Value.oneCell']) (by unfold maxLen; omega) (by omega) (by simp; omega) ?_; intro v12 w12 hown12 hgrow12 _)
        have hB12 : Below Bm w11 w12 := ((Below.refl Bm w11).alloc hszB (.cells #[.slice p1 l.length c1, .slice p2 A1.1.length c2, .slice p3 A2.1.length c3] 24)).grown hgrow12 (by simp; omega) (fun j e => (HC11.out.q.1.lt j e).1)
        have hwB : w.heap.size ≤ Bm := HC11.out.ne.2.2.2.2
        have hzs := HC.out.q.lt
        refine ⟨⟨k + 1, by go_num, A2.2, Vs ++ [(.slice p1 l.length c1, l.length), (.slice p2 A1.1.length c2, A1.1.length), (.slice p3 A2.1.length c3, A2.1.length)], hlt, by rw [List.length_append]; simp only [List.length_cons, List.length_nil]; omega, by omega, ⟨HC11.out.ct.apart hB12, ?_, (hB12.block _ HC11.out.ne.2.2.1).trans HC11.out.hx, (hB12.block _ HC11.out.ne.2.2.2.1).trans HC11.out.ht, HC11.out.bl.trans (hB12.mono hwB), Nat.le_trans hszB hB12.size, fun x hx => by simp at hx, HC11.out.ne⟩⟩, by simp [intOf]; omega⟩
        exact HC11.out.q.step (a := (.slice p1 l.length c1, l.length)) (b := (.slice p2 A1.1.length c2, A1.1.length)) (c := (.slice p3 A2.1.length c3, A2.1.length)) (H := wr.heap.size) hzs (fun g hg => (L1 g hg).1) (fun g hg => by have := (L2 g hg).1; omega) (fun g hg => by have := (L3 g hg).1; omega) (fun g h1 h2 => by have := (L1 g h1).2; have := (L2 g h2).1; omega) (fun g h1 h2 => by have := (L1 g h1).2; have := (L3 g h2).1; omega) (fun g h1 h2 => by have := (L2 g h1).2; have := (L3 g h2).1; omega) ⟨hl, _, HC11.out.rs (.slice p1 l.length c1, l) (by simp)⟩ ⟨by show A1.1.length ≤ 2097152; omega, _, HC11.out.rs (.slice p2 A1.1.length c2, A1.1) (by simp)⟩ ⟨by show A2.1.length ≤ 2097152; omega, _, HC11.out.rs (.slice p3 A2.1.length c3, A2.1) (by simp)⟩ (.cells #[.slice p1 l.length c1, .slice p2 A1.1.length c2, .slice p3 A2.1.length c3] 24) hown12 hgrow12
      · obtain rfl : k = 5 := by omega
        obtain ⟨s1, hp1⟩ := part_ex HGo.out (plE x0.1.v)
        obtain ⟨s2, hp2⟩ := part_ex HGo.out x0.1
        obtain ⟨A1, hA1⟩ : ∃ A, findA x0.1.v (groups l) s1 r = A := ⟨_, rfl⟩
        obtain ⟨A2, hA2⟩ : ∃ A, fromA x0.1 x0.2 (groups l) s2 A1.2 = A := ⟨_, rfl⟩
        obtain ⟨ha1, ha2, ha3⟩ := findA_len HGo.out x0.1.v s1 r
        obtain ⟨hc1, hc2, hc3⟩ := fromA_len HGo.out x0.1 x0.2 hp2 A1.2
        rw [hA1] at ha1 ha2 ha3
        rw [hA2] at hc1 hc2 hc3
        have HPF := Lib.hid (fun W hW => PFindX (w.heap.size + 1) f1 h l r x0.1.v s1 W hW HGo.out (by omega) hp1)
        have HRF := Lib.hid (fun W hW => RFindX B2 f2 h l r x0.1.v s1 W hW HGo.out (by omega) hp1)
        have HPO := Lib.hid (fun W hW => PFromX (w.heap.size + 1) f1 h l A1.2 x0.1 x0.2 hm0 s2 W hW HGo.out (by omega) hp2)
        have HRO := Lib.hid (fun W hW => RFromX B2 f2 h l A1.2 x0.1 x0.2 hm0 s2 W hW HGo.out (by omega) hp2)
        rw [hA1] at HPF HRF
        rw [hA2] at HPO HRO
        unfold Ent.val at HPO HRO
        clear hp1 hp2 hA1 hA2
        go_wp2_with fail
        refine (apartQ_calls HC.out.q (by omega) HC.out.sz).mono ?_
        rintro e w3 ⟨rfl, hb3⟩
        have HC3 : Hid (Cy w w3 Bm w.heap.size tb (.cells #[.int .i64 x0.1.v, .string x0.1.c, .int .i64 x0.1.i, .int .i64 x0.1.s, .bool x0.1.d, .int .i64 x0.2] 44 (0, 0)) (turnsO x0) (w.heap.size + 1) f1 B2 f2 h l r r (.slice none 0 0) [] []) := Lib.hid ⟨HC.out.ct.apart hb3, ⟨World.ownsRow_nil _ _ _ _, fun x hx => by simp at hx, List.Pairwise.nil⟩, (hb3.block _ HC.out.ne.2.2.1).trans HC.out.hx, (hb3.block _ HC.out.ne.2.2.2.1).trans HC.out.ht, HC.out.bl.trans (hb3.mono HC.out.ne.2.2.2.2), Nat.le_trans HC.out.sz hb3.size, fun x hx => by simp at hx, HC.out.ne⟩
        have HC3d := Lib.hid (HC3.out.below (Below.refl _ w3).drew)
        obtain ⟨d0, d1, d2, d3, d4, d5⟩ := HBX.out _ HC3.out.hx
        clear hb3
        go_wp2
        refine wp_region_held_drew (S := (fun W => W.cell? ⟨w.heap.size, 0, none⟩ = some (.int .i64 x0.1.v) ∧ W.cell? ⟨w.heap.size, 1, none⟩ = some (.string x0.1.c) ∧ W.cell? ⟨w.heap.size, 2, none⟩ = some (.int .i64 x0.1.i) ∧ W.cell? ⟨w.heap.size, 3, none⟩ = some (.int .i64 x0.1.s) ∧ W.cell? ⟨w.heap.size, 4, none⟩ = some (.bool x0.1.d) ∧ W.cell? ⟨w.heap.size, 5, none⟩ = some (.int .i64 x0.2))) (by kernel_rfl) ?_ (fun hHeld => ?_)
        · exact HBX.out _ HC3d.out.hx
        refine wpAnyH_take (i := 0) (oi := { dst := some 124, op := Op.move (Operand.tmp 5), type := 36, pos := "law.go:161", after := #[], guard := none }) (v := ?_) rfl (by kernel_rfl) (by kernel_rfl) (by kernel_rfl) (fun _ _ _ h => h) (Or.inl ⟨by rfl, ?_⟩) (by assumption) ?_
        rotate_left 1
        · intro w hSw
          (try dsimp only at hSw)
          go_simp
          try with_reducible rfl
        (try simp only [Act.put, List.setIfInBounds_toArray, List.set_cons_zero, List.set_cons_succ])
        refine wpAnyH_take (i := 2) (oi := { dst := some 126, op := Op.move (Operand.tmp 7), type := 39, pos := "law.go:161", after := #[], guard := none }) (v := ?_) rfl (by kernel_rfl) (by kernel_rfl) (by kernel_rfl) (fun _ _ _ h => h) (Or.inl ⟨by rfl, ?_⟩) (by assumption) ?_
        rotate_left 1
        · intro w hSw
          (try dsimp only at hSw)
          go_simp
          try with_reducible rfl
        (try simp only [Act.put, List.setIfInBounds_toArray, List.set_cons_zero, List.set_cons_succ])
        refine wpAnyH_ready (rs := [1]) (by kernel_rfl) (by simp) ?_
        refine AllReadyH.cons (o := { dst := some 125, op := Op.call { callee := Callee.value (Operand.func 24), args := #[Operand.tmp 124], argTypes := #[36] }, type := 24, pos := "law.go:161", after := #[{ on := 0, ground := Ground.data }], guard := none }) rfl (fun K hK => ?_) ?_
        rotate_left 1
        · exact AllReadyH.nil
        go_simp
        go_at_call 24; refine (All_calls _ f1 h l _ w3.drew HC3d.out.ct.f hl).mono ?_; rintro e w4 ⟨v1, rfl, ho1, hb1⟩; have HC4 := Lib.hid ((HC3d.out.below hb1).add ho1 HC3d.out.sz); clear ho1 hb1
        refine hK.out _ _ ?_ (fun hHeld1 => ?_)
        · exact HBX.out _ HC4.out.hx
        clear hK K
        (try simp only [Act.put, List.setIfInBounds_toArray, List.set_cons_zero, List.set_cons_succ])
        refine wpAnyH_ready (rs := [3]) (by kernel_rfl) (by simp) ?_
        refine AllReadyH.cons (o := { dst := some 127, op := Op.call { callee := Callee.value (Operand.func 25), args := #[Operand.tmp 126], argTypes := #[39] }, type := 24, pos := "law.go:161", after := #[{ on := 2, ground := Ground.data }, { on := 1, ground := Ground.chain }], guard := none }) rfl (fun K hK => ?_) ?_
        rotate_left 1
        · exact AllReadyH.nil
        go_simp
        go_at_call 25; refine (RAll_calls _ f2 h l _ w4 HC4.out.ct.d hl).mono ?_; rintro e w5 ⟨va, rfl, ho1, hb1⟩; have HC5 := Lib.hid ((HC4.out.below hb1).add ho1 HC4.out.sz); clear ho1 hb1
        refine hK.out _ _ ?_ (fun hHeld3 => ?_)
        · exact HBX.out _ HC5.out.hx
        clear hK K
        (try simp only [Act.put, List.setIfInBounds_toArray, List.set_cons_zero, List.set_cons_succ])
        refine wpAnyH_ready (rs := [4]) (by kernel_rfl) (by simp) ?_
        refine AllReadyH.cons (o := { dst := some 128, op := Op.call { callee := Callee.value (Operand.func 14), args := #[Operand.tmp 125, Operand.tmp 127], argTypes := #[24, 24] }, type := 4, pos := "law.go:161", after := #[{ on := 1, ground := Ground.data }, { on := 3, ground := Ground.data }, { on := 3, ground := Ground.chain }], guard := none }) rfl (fun K hK => ?_) ?_
        rotate_left 1
        · exact AllReadyH.nil
        go_simp
        go_at_call 14; refine (sameE_true v1 va l (by omega) w5 (HC5.out.es (by simp)) (HC5.out.es (by simp))).mono ?_; rintro e w6 ⟨rfl, hb1⟩; have HC6 := Lib.hid (HC5.out.below hb1); clear hb1
        refine hK.out _ _ ?_ (fun hHeld4 => ?_)
        · exact HBX.out _ HC6.out.hx
        clear hK K
        (try simp only [Act.put, List.setIfInBounds_toArray, List.set_cons_zero, List.set_cons_succ])
        refine wpAnyH_take (i := 5) (oi := { dst := some 129, op := Op.move (Operand.tmp 128), type := 4, pos := "law.go:161", after := #[{ on := 4, ground := Ground.data }, { on := 4, ground := Ground.chain }], guard := none }) (v := ?_) rfl (by kernel_rfl) (by kernel_rfl) (by kernel_rfl) (fun _ _ _ h => h) (Or.inl ⟨by rfl, ?_⟩) (by assumption) ?_
        rotate_left 1
        · intro w hSw
          (try dsimp only at hSw)
          go_simp
          try with_reducible rfl
        (try simp only [Act.put, List.setIfInBounds_toArray, List.set_cons_zero, List.set_cons_succ])
        refine wpAnyH_take (i := 6) (oi := { dst := some 130, op := Op.move (Operand.tmp 5), type := 36, pos := "law.go:161", after := #[{ on := 5, ground := Ground.guard }], guard := some (5, true) }) (v := ?_) rfl (by kernel_rfl) (by kernel_rfl) (by kernel_rfl) (fun _ _ _ h => h) (Or.inl ⟨by rfl, ?_⟩) (by assumption) ?_
        rotate_left 1
        · intro w hSw
          (try dsimp only at hSw)
          go_simp
          try with_reducible rfl
        (try simp only [Act.put, List.setIfInBounds_toArray, List.set_cons_zero, List.set_cons_succ])
        refine wpAnyH_take (i := 7) (oi := { dst := some 131, op := Op.fieldAddr 44 (Operand.tmp 3) 0, type := 0, pos := "law.go:161", after := #[{ on := 5, ground := Ground.guard }], guard := some (5, true) }) (v := ?_) rfl (by kernel_rfl) (by kernel_rfl) (by kernel_rfl) (fun _ _ _ h => h) (Or.inl ⟨by rfl, ?_⟩) (by assumption) ?_
        rotate_left 1
        · intro w hSw
          (try dsimp only at hSw)
          go_simp
          try with_reducible rfl
        (try simp only [Act.put, List.setIfInBounds_toArray, List.set_cons_zero, List.set_cons_succ])
        refine wpAnyH_take (i := 8) (oi := { dst := some 132, op := Op.fieldAddr 33 (Operand.tmp 131) 0, type := 0, pos := "law.go:161", after := #[{ on := 7, ground := Ground.data }, { on := 5, ground := Ground.guard }], guard := some (5, true) }) (v := ?_) rfl (by kernel_rfl) (by kernel_rfl) (by kernel_rfl) (fun _ _ _ h => h) (Or.inl ⟨by rfl, ?_⟩) (by assumption) ?_
        rotate_left 1
        · intro w hSw
          (try dsimp only at hSw)
          go_simp
          try with_reducible rfl
        (try simp only [Act.put, List.setIfInBounds_toArray, List.set_cons_zero, List.set_cons_succ])
        refine wpAnyH_take (i := 9) (oi := { dst := some 133, op := Op.load 3 (Operand.tmp 132), type := 3, pos := "law.go:161", after := #[{ on := 8, ground := Ground.data }, { on := 5, ground := Ground.guard }], guard := some (5, true) }) (v := ?_) rfl (by kernel_rfl) (by kernel_rfl) (by kernel_rfl) (fun _ _ _ h => h) (Or.inl ⟨by rfl, ?_⟩) (by assumption) ?_
        rotate_left 1
        · intro w hSw
          (try dsimp only at hSw)
          go_simp
          try with_reducible rfl
        (try simp only [Act.put, List.setIfInBounds_toArray, List.set_cons_zero, List.set_cons_succ])
        refine wpAnyH_take (i := 11) (oi := { dst := some 135, op := Op.move (Operand.tmp 7), type := 39, pos := "law.go:161", after := #[{ on := 5, ground := Ground.guard }], guard := some (5, true) }) (v := ?_) rfl (by kernel_rfl) (by kernel_rfl) (by kernel_rfl) (fun _ _ _ h => h) (Or.inl ⟨by rfl, ?_⟩) (by assumption) ?_
        rotate_left 1
        · intro w hSw
          (try dsimp only at hSw)
          go_simp
          try with_reducible rfl
        (try simp only [Act.put, List.setIfInBounds_toArray, List.set_cons_zero, List.set_cons_succ])
        refine wpAnyH_take (i := 12) (oi := { dst := some 136, op := Op.fieldAddr 44 (Operand.tmp 3) 0, type := 0, pos := "law.go:161", after := #[{ on := 5, ground := Ground.guard }], guard := some (5, true) }) (v := ?_) rfl (by kernel_rfl) (by kernel_rfl) (by kernel_rfl) (fun _ _ _ h => h) (Or.inl ⟨by rfl, ?_⟩) (by assumption) ?_
        rotate_left 1
        · intro w hSw
          (try dsimp only at hSw)
          go_simp
          try with_reducible rfl
        (try simp only [Act.put, List.setIfInBounds_toArray, List.set_cons_zero, List.set_cons_succ])
        refine wpAnyH_take (i := 13) (oi := { dst := some 137, op := Op.fieldAddr 33 (Operand.tmp 136) 0, type := 0, pos := "law.go:161", after := #[{ on := 12, ground := Ground.data }, { on := 5, ground := Ground.guard }], guard := some (5, true) }) (v := ?_) rfl (by kernel_rfl) (by kernel_rfl) (by kernel_rfl) (fun _ _ _ h => h) (Or.inl ⟨by rfl, ?_⟩) (by assumption) ?_
        rotate_left 1
        · intro w hSw
          (try dsimp only at hSw)
          go_simp
          try with_reducible rfl
        (try simp only [Act.put, List.setIfInBounds_toArray, List.set_cons_zero, List.set_cons_succ])
        refine wpAnyH_take (i := 14) (oi := { dst := some 138, op := Op.load 3 (Operand.tmp 137), type := 3, pos := "law.go:161", after := #[{ on := 13, ground := Ground.data }, { on := 5, ground := Ground.guard }], guard := some (5, true) }) (v := ?_) rfl (by kernel_rfl) (by kernel_rfl) (by kernel_rfl) (fun _ _ _ h => h) (Or.inl ⟨by rfl, ?_⟩) (by assumption) ?_
        rotate_left 1
        · intro w hSw
          (try dsimp only at hSw)
          go_simp
          try with_reducible rfl
        (try simp only [Act.put, List.setIfInBounds_toArray, List.set_cons_zero, List.set_cons_succ])
        refine wpAnyH_ready (rs := [10]) (by kernel_rfl) (by simp) ?_
        refine AllReadyH.cons (o := { dst := some 134, op := Op.call { callee := Callee.value (Operand.func 21), args := #[Operand.tmp 130, Operand.tmp 133], argTypes := #[36, 3] }, type := 24, pos := "law.go:161", after := #[{ on := 6, ground := Ground.data }, { on := 9, ground := Ground.data }, { on := 5, ground := Ground.chain }, { on := 5, ground := Ground.guard }], guard := some (5, true) }) rfl (fun K hK => ?_) ?_
        rotate_left 1
        · exact AllReadyH.nil
        go_simp
        go_at_call 21; refine (HPF.out w6 HC6.out.ct.f).mono ?_; rintro e w7 ⟨v2, rfl, ho1, hx1, hg1⟩; have HC7 := Lib.hid ((HC6.out.goF hx1 hg1).add ho1 HC6.out.sz); clear ho1 hx1 hg1
        refine hK.out _ _ ?_ (fun hHeld10 => ?_)
        · exact HBX.out _ HC7.out.hx
        clear hK K
        (try simp only [Act.put, List.setIfInBounds_toArray, List.set_cons_zero, List.set_cons_succ])
        refine wpAnyH_ready (rs := [15]) (by kernel_rfl) (by simp) ?_
        refine AllReadyH.cons (o := { dst := some 139, op := Op.call { callee := Callee.value (Operand.func 26), args := #[Operand.tmp 135, Operand.tmp 138], argTypes := #[39, 3] }, type := 24, pos := "law.go:161", after := #[{ on := 11, ground := Ground.data }, { on := 14, ground := Ground.data }, { on := 10, ground := Ground.chain }, { on := 5, ground := Ground.guard }], guard := some (5, true) }) rfl (fun K hK => ?_) ?_
        rotate_left 1
        · exact AllReadyH.nil
        go_simp
        go_at_call 26; refine (HRF.out w7 HC7.out.ct.d).mono ?_; rintro e w8 ⟨vb, rfl, ho1, hx1, hg1⟩; have HC8 := Lib.hid ((HC7.out.goD hx1 hg1).add ho1 HC7.out.sz); clear ho1 hx1 hg1
        refine hK.out _ _ ?_ (fun hHeld15 => ?_)
        · exact HBX.out _ HC8.out.hx
        clear hK K
        (try simp only [Act.put, List.setIfInBounds_toArray, List.set_cons_zero, List.set_cons_succ])
        refine wpAnyH_ready (rs := [16]) (by kernel_rfl) (by simp) ?_
        refine AllReadyH.cons (o := { dst := some 140, op := Op.call { callee := Callee.value (Operand.func 14), args := #[Operand.tmp 134, Operand.tmp 139], argTypes := #[24, 24] }, type := 4, pos := "law.go:161", after := #[{ on := 10, ground := Ground.data }, { on := 15, ground := Ground.data }, { on := 15, ground := Ground.chain }, { on := 5, ground := Ground.guard }], guard := some (5, true) }) rfl (fun K hK => ?_) ?_
        rotate_left 1
        · exact AllReadyH.nil
        go_simp
        go_at_call 14; refine (sameE_true v2 vb A1.1 (by omega) w8 (HC8.out.es (by simp)) (HC8.out.es (by simp))).mono ?_; rintro e w9 ⟨rfl, hb1⟩; have HC9 := Lib.hid (HC8.out.below hb1); clear hb1
        refine hK.out _ _ ?_ (fun hHeld16 => ?_)
        · exact HBX.out _ HC9.out.hx
        clear hK K
        (try simp only [Act.put, List.setIfInBounds_toArray, List.set_cons_zero, List.set_cons_succ])
        refine wpAnyH_take (i := 17) (oi := { dst := some 141, op := Op.pick (Operand.tmp 129) (Operand.tmp 140) (Operand.const (Value.bool false)), type := 4, pos := "law.go:161", after := #[{ on := 5, ground := Ground.data }, { on := 16, ground := Ground.data }], guard := none }) (v := ?_) rfl (by kernel_rfl) (by kernel_rfl) (by kernel_rfl) (fun _ _ _ h => h) (Or.inl ⟨by rfl, ?_⟩) (by assumption) ?_
        rotate_left 1
        · intro w hSw
          (try dsimp only at hSw)
          go_simp
          try with_reducible rfl
        (try simp only [Act.put, List.setIfInBounds_toArray, List.set_cons_zero, List.set_cons_succ])
        refine wpAnyH_take (i := 18) (oi := { dst := some 142, op := Op.move (Operand.tmp 141), type := 4, pos := "law.go:161", after := #[{ on := 17, ground := Ground.data }, { on := 16, ground := Ground.chain }], guard := none }) (v := ?_) rfl (by kernel_rfl) (by kernel_rfl) (by kernel_rfl) (fun _ _ _ h => h) (Or.inl ⟨by rfl, ?_⟩) (by assumption) ?_
        rotate_left 1
        · intro w hSw
          (try dsimp only at hSw)
          go_simp
          try with_reducible rfl
        (try simp only [Act.put, List.setIfInBounds_toArray, List.set_cons_zero, List.set_cons_succ])
        refine wpAnyH_take (i := 19) (oi := { dst := some 143, op := Op.move (Operand.tmp 5), type := 36, pos := "law.go:161", after := #[{ on := 18, ground := Ground.guard }], guard := some (18, true) }) (v := ?_) rfl (by kernel_rfl) (by kernel_rfl) (by kernel_rfl) (fun _ _ _ h => h) (Or.inl ⟨by rfl, ?_⟩) (by assumption) ?_
        rotate_left 1
        · intro w hSw
          (try dsimp only at hSw)
          go_simp
          try with_reducible rfl
        (try simp only [Act.put, List.setIfInBounds_toArray, List.set_cons_zero, List.set_cons_succ])
        refine wpAnyH_take (i := 20) (oi := { dst := some 144, op := Op.fieldAddr 44 (Operand.tmp 3) 0, type := 0, pos := "law.go:161", after := #[{ on := 18, ground := Ground.guard }], guard := some (18, true) }) (v := ?_) rfl (by kernel_rfl) (by kernel_rfl) (by kernel_rfl) (fun _ _ _ h => h) (Or.inl ⟨by rfl, ?_⟩) (by assumption) ?_
        rotate_left 1
        · intro w hSw
          (try dsimp only at hSw)
          go_simp
          try with_reducible rfl
        (try simp only [Act.put, List.setIfInBounds_toArray, List.set_cons_zero, List.set_cons_succ])
        refine wpAnyH_take (i := 21) (oi := { dst := some 145, op := Op.load 33 (Operand.tmp 144), type := 33, pos := "law.go:161", after := #[{ on := 20, ground := Ground.data }, { on := 18, ground := Ground.guard }], guard := some (18, true) }) (v := ?_) rfl (by kernel_rfl) (by kernel_rfl) (by kernel_rfl) (fun _ _ _ h => h) (Or.inl ⟨by rfl, ?_⟩) (by assumption) ?_
        rotate_left 1
        · intro w hSw
          (try dsimp only at hSw)
          go_simp
          try with_reducible rfl
        (try simp only [Act.put, List.setIfInBounds_toArray, List.set_cons_zero, List.set_cons_succ])
        refine wpAnyH_take (i := 22) (oi := { dst := some 146, op := Op.fieldAddr 44 (Operand.tmp 3) 1, type := 0, pos := "law.go:161", after := #[{ on := 18, ground := Ground.guard }], guard := some (18, true) }) (v := ?_) rfl (by kernel_rfl) (by kernel_rfl) (by kernel_rfl) (fun _ _ _ h => h) (Or.inl ⟨by rfl, ?_⟩) (by assumption) ?_
        rotate_left 1
        · intro w hSw
          (try dsimp only at hSw)
          go_simp
          try with_reducible rfl
        (try simp only [Act.put, List.setIfInBounds_toArray, List.set_cons_zero, List.set_cons_succ])
        refine wpAnyH_take (i := 23) (oi := { dst := some 147, op := Op.load 3 (Operand.tmp 146), type := 3, pos := "law.go:161", after := #[{ on := 22, ground := Ground.data }, { on := 18, ground := Ground.guard }], guard := some (18, true) }) (v := ?_) rfl (by kernel_rfl) (by kernel_rfl) (by kernel_rfl) (fun _ _ _ h => h) (Or.inl ⟨by rfl, ?_⟩) (by assumption) ?_
        rotate_left 1
        · intro w hSw
          (try dsimp only at hSw)
          go_simp
          try with_reducible rfl
        (try simp only [Act.put, List.setIfInBounds_toArray, List.set_cons_zero, List.set_cons_succ])
        refine wpAnyH_take (i := 25) (oi := { dst := some 149, op := Op.move (Operand.tmp 7), type := 39, pos := "law.go:161", after := #[{ on := 18, ground := Ground.guard }], guard := some (18, true) }) (v := ?_) rfl (by kernel_rfl) (by kernel_rfl) (by kernel_rfl) (fun _ _ _ h => h) (Or.inl ⟨by rfl, ?_⟩) (by assumption) ?_
        rotate_left 1
        · intro w hSw
          (try dsimp only at hSw)
          go_simp
          try with_reducible rfl
        (try simp only [Act.put, List.setIfInBounds_toArray, List.set_cons_zero, List.set_cons_succ])
        refine wpAnyH_take (i := 26) (oi := { dst := some 150, op := Op.fieldAddr 44 (Operand.tmp 3) 0, type := 0, pos := "law.go:161", after := #[{ on := 18, ground := Ground.guard }], guard := some (18, true) }) (v := ?_) rfl (by kernel_rfl) (by kernel_rfl) (by kernel_rfl) (fun _ _ _ h => h) (Or.inl ⟨by rfl, ?_⟩) (by assumption) ?_
        rotate_left 1
        · intro w hSw
          (try dsimp only at hSw)
          go_simp
          try with_reducible rfl
        (try simp only [Act.put, List.setIfInBounds_toArray, List.set_cons_zero, List.set_cons_succ])
        refine wpAnyH_take (i := 27) (oi := { dst := some 151, op := Op.load 33 (Operand.tmp 150), type := 33, pos := "law.go:161", after := #[{ on := 26, ground := Ground.data }, { on := 18, ground := Ground.guard }], guard := some (18, true) }) (v := ?_) rfl (by kernel_rfl) (by kernel_rfl) (by kernel_rfl) (fun _ _ _ h => h) (Or.inl ⟨by rfl, ?_⟩) (by assumption) ?_
        rotate_left 1
        · intro w hSw
          (try dsimp only at hSw)
          go_simp
          try with_reducible rfl
        (try simp only [Act.put, List.setIfInBounds_toArray, List.set_cons_zero, List.set_cons_succ])
        refine wpAnyH_take (i := 28) (oi := { dst := some 152, op := Op.fieldAddr 44 (Operand.tmp 3) 1, type := 0, pos := "law.go:161", after := #[{ on := 18, ground := Ground.guard }], guard := some (18, true) }) (v := ?_) rfl (by kernel_rfl) (by kernel_rfl) (by kernel_rfl) (fun _ _ _ h => h) (Or.inl ⟨by rfl, ?_⟩) (by assumption) ?_
        rotate_left 1
        · intro w hSw
          (try dsimp only at hSw)
          go_simp
          try with_reducible rfl
        (try simp only [Act.put, List.setIfInBounds_toArray, List.set_cons_zero, List.set_cons_succ])
        refine wpAnyH_take (i := 29) (oi := { dst := some 153, op := Op.load 3 (Operand.tmp 152), type := 3, pos := "law.go:161", after := #[{ on := 28, ground := Ground.data }, { on := 18, ground := Ground.guard }], guard := some (18, true) }) (v := ?_) rfl (by kernel_rfl) (by kernel_rfl) (by kernel_rfl) (fun _ _ _ h => h) (Or.inl ⟨by rfl, ?_⟩) (by assumption) ?_
        rotate_left 1
        · intro w hSw
          (try dsimp only at hSw)
          go_simp
          try with_reducible rfl
        (try simp only [Act.put, List.setIfInBounds_toArray, List.set_cons_zero, List.set_cons_succ])
        refine wpAnyH_ready (rs := [24]) (by kernel_rfl) (by simp) ?_
        refine AllReadyH.cons (o := { dst := some 148, op := Op.call { callee := Callee.value (Operand.func 23), args := #[Operand.tmp 143, Operand.tmp 145, Operand.tmp 147], argTypes := #[36, 33, 3] }, type := 24, pos := "law.go:161", after := #[{ on := 19, ground := Ground.data }, { on := 21, ground := Ground.data }, { on := 23, ground := Ground.data }, { on := 18, ground := Ground.chain }, { on := 18, ground := Ground.guard }], guard := some (18, true) }) rfl (fun K hK => ?_) ?_
        rotate_left 1
        · exact AllReadyH.nil
        go_simp
        go_at_call 23; refine (HPO.out w9 HC9.out.ct.f).mono ?_; rintro e w10 ⟨v3, rfl, ho1, hx1, hg1⟩; have HC10 := Lib.hid ((HC9.out.goF hx1 hg1).add ho1 HC9.out.sz); clear ho1 hx1 hg1
        refine hK.out _ _ ?_ (fun hHeld24 => ?_)
        · exact HBX.out _ HC10.out.hx
        clear hK K
        (try simp only [Act.put, List.setIfInBounds_toArray, List.set_cons_zero, List.set_cons_succ])
        refine wpAnyH_ready (rs := [30]) (by kernel_rfl) (by simp) ?_
        refine AllReadyH.cons (o := { dst := some 154, op := Op.call { callee := Callee.value (Operand.func 27), args := #[Operand.tmp 149, Operand.tmp 151, Operand.tmp 153], argTypes := #[39, 33, 3] }, type := 24, pos := "law.go:161", after := #[{ on := 25, ground := Ground.data }, { on := 27, ground := Ground.data }, { on := 29, ground := Ground.data }, { on := 24, ground := Ground.chain }, { on := 18, ground := Ground.guard }], guard := some (18, true) }) rfl (fun K hK => ?_) ?_
        rotate_left 1
        · exact AllReadyH.nil
        go_simp
        go_at_call 27; refine (HRO.out w10 HC10.out.ct.d).mono ?_; rintro e w11 ⟨vc, rfl, ho1, hx1, hg1⟩; have HC11 := Lib.hid ((HC10.out.goD hx1 hg1).add ho1 HC10.out.sz); clear ho1 hx1 hg1
        refine hK.out _ _ ?_ (fun hHeld30 => ?_)
        · exact HBX.out _ HC11.out.hx
        clear hK K
        (try simp only [Act.put, List.setIfInBounds_toArray, List.set_cons_zero, List.set_cons_succ])
        refine wpAnyH_ready (rs := [31]) (by kernel_rfl) (by simp) ?_
        refine AllReadyH.cons (o := { dst := some 155, op := Op.call { callee := Callee.value (Operand.func 14), args := #[Operand.tmp 148, Operand.tmp 154], argTypes := #[24, 24] }, type := 4, pos := "law.go:161", after := #[{ on := 24, ground := Ground.data }, { on := 30, ground := Ground.data }, { on := 30, ground := Ground.chain }, { on := 18, ground := Ground.guard }], guard := some (18, true) }) rfl (fun K hK => ?_) ?_
        rotate_left 1
        · exact AllReadyH.nil
        go_simp
        go_at_call 14; refine (sameE_true v3 vc A2.1 (by omega) w11 (HC11.out.es (by simp)) (HC11.out.es (by simp))).mono ?_; rintro e w12 ⟨rfl, hb1⟩; have HC12 := Lib.hid (HC11.out.below hb1); clear hb1
        refine hK.out _ _ ?_ (fun hHeld31 => ?_)
        · exact HBX.out _ HC12.out.hx
        clear hK K
        (try simp only [Act.put, List.setIfInBounds_toArray, List.set_cons_zero, List.set_cons_succ])
        refine wpAnyH_take (i := 32) (oi := { dst := some 156, op := Op.pick (Operand.tmp 142) (Operand.tmp 155) (Operand.const (Value.bool false)), type := 4, pos := "law.go:161", after := #[{ on := 18, ground := Ground.data }, { on := 31, ground := Ground.data }], guard := none }) (v := ?_) rfl (by kernel_rfl) (by kernel_rfl) (by kernel_rfl) (fun _ _ _ h => h) (Or.inl ⟨by rfl, ?_⟩) (by assumption) ?_
        rotate_left 1
        · intro w hSw
          (try dsimp only at hSw)
          go_simp
          try with_reducible rfl
        (try simp only [Act.put, List.setIfInBounds_toArray, List.set_cons_zero, List.set_cons_succ])
        refine wpAnyH_take (i := 33) (oi := { dst := some 19, op := Op.assign (Operand.tmp 156), type := 4, pos := "law.go:161", after := #[{ on := 32, ground := Ground.data }, { on := 31, ground := Ground.chain }, { on := 0, ground := Ground.phase }, { on := 1, ground := Ground.phase }, { on := 2, ground := Ground.phase }, { on := 3, ground := Ground.phase }, { on := 4, ground := Ground.phase }, { on := 5, ground := Ground.phase }, { on := 6, ground := Ground.phase }, { on := 7, ground := Ground.phase }, { on := 8, ground := Ground.phase }, { on := 9, ground := Ground.phase }, { on := 10, ground := Ground.phase }, { on := 11, ground := Ground.phase }, { on := 12, ground := Ground.phase }, { on := 13, ground := Ground.phase }, { on := 14, ground := Ground.phase }, { on := 15, ground := Ground.phase }, { on := 16, ground := Ground.phase }, { on := 17, ground := Ground.phase }, { on := 18, ground := Ground.phase }, { on := 19, ground := Ground.phase }, { on := 20, ground := Ground.phase }, { on := 21, ground := Ground.phase }, { on := 22, ground := Ground.phase }, { on := 23, ground := Ground.phase }, { on := 24, ground := Ground.phase }, { on := 25, ground := Ground.phase }, { on := 26, ground := Ground.phase }, { on := 27, ground := Ground.phase }, { on := 28, ground := Ground.phase }, { on := 29, ground := Ground.phase }, { on := 30, ground := Ground.phase }, { on := 31, ground := Ground.phase }, { on := 32, ground := Ground.phase }], guard := none }) (v := ?_) rfl (by kernel_rfl) (by kernel_rfl) (by kernel_rfl) (fun _ _ _ h => h) (Or.inl ⟨by rfl, ?_⟩) (by assumption) ?_
        rotate_left 1
        · intro w hSw
          (try dsimp only at hSw)
          go_simp
          try with_reducible rfl
        (try simp only [Act.put, List.setIfInBounds_toArray, List.set_cons_zero, List.set_cons_succ])
        refine wpAnyH_done (by kernel_rfl) ?_ _
        go_wp2_with fail
        refine (Reads_calls _ f1 h l _ w12 HC12.out.ct.f).mono ?_
        rintro e w13 ⟨rfl, hw13⟩
        subst hw13
        go_wp2_with fail
        refine (RReads_calls _ f2 h l _ w13 HC12.out.ct.d).mono ?_
        rintro e w14 ⟨rfl, hw14⟩
        subst hw14
        go_wp2
        go_ret
        exact ⟨rfl, HC12.out.bl⟩
end Go.Proofs.YtihgjihdmlomaaaDoor

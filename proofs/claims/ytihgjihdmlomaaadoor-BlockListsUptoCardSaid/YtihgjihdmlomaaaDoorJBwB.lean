/-
  WALK: the entry that stands at a place of a block (the document's entry).
-/
import Derived.Test.YtihgjihdmlomaaaDoorJBwP
namespace Go.Proofs.YtihgjihdmlomaaaDoor
open Go.RowKit ArgK
set_option linter.unusedVariables false

def EntRPost (w : World) (b : List UInt8) (a n : Nat) (e : Ending) (w' : World) : Prop :=
  Below w.heap.size w w' ∧ ((∃ x nx, entR b a n = some (x, nx) ∧ e = .returned (.tuple #[x.val, .int .i64 (nx : Nat), .bool true])) ∨ (entR b a n = none ∧ e = .returned (.tuple #[.agg #[.int .i64 0, .string .empty, .int .i64 0, .int .i64 0, .bool false], .int .i64 0, .bool false])))

theorem below_five {B : Nat} {a W : World} (h : Below B a W) {g : Nat} (hg : B ≤ g) (v0 v1 v2 v3 v4 : Value) : Below B a (((((W.setCell ⟨g, 0, none⟩ v0).setCell ⟨g, 1, none⟩ v1).setCell ⟨g, 2, none⟩ v2).setCell ⟨g, 3, none⟩ v3).setCell ⟨g, 4, none⟩ v4) :=
  ((((h.setCell (p := ⟨g, 0, none⟩) hg v0).setCell (p := ⟨g, 1, none⟩) hg v1).setCell (p := ⟨g, 2, none⟩) hg v2).setCell (p := ⟨g, 3, none⟩) hg v3).setCell (p := ⟨g, 4, none⟩) hg v4
theorem far5 {W : World} {g k : Nat} (h : k ≠ g) (v0 v1 v2 v3 v4 : Value) : (((((W.setCell ⟨g, 0, none⟩ v0).setCell ⟨g, 1, none⟩ v1).setCell ⟨g, 2, none⟩ v2).setCell ⟨g, 3, none⟩ v3).setCell ⟨g, 4, none⟩ v4).heap[k]? = W.heap[k]? := by
  rw [Below.heap_setCell _ _ _ k h, Below.heap_setCell _ _ _ k h, Below.heap_setCell _ _ _ k h, Below.heap_setCell _ _ _ k h, Below.heap_setCell _ _ _ k h]
theorem byte_one (c : UInt8) : ((c.toNat : Int) == 1) = (c == 1) := by
  rw [Bool.eq_iff_iff]
  simp only [beq_iff_eq]
  constructor
  · intro h
    exact UInt8.toNat_inj.1 (by simp; omega)
  · intro h
    subst h
    rfl
theorem results_cell_tmp2B {fn : Func} {p u v : Tmp} {ty : TypeId} (h : fn.results = #[.cell p ty, .tmp u, .tmp v]) (tmps : Array Value) (P : Program) (w : World) :
    (results fn tmps).run P w = ((asAddr (tmps.getD p undef)).run P w).andThen fun a w₁ => ((loadVar ty a).run P w₁).andThen fun x w₂ => .ok (.tuple #[x, tmps.getD u undef, tmps.getD v undef]) w₂ := by
  simp only [results, h]
  simp [Sem.run_bind, Result.andThen]

set_option maxRecDepth 100000 in
set_option maxHeartbeats 2000000 in
theorem entry_calls (b : ByteArray) (hb : b.size ≤ 1000000000000) (a n : Nat) (ha : a ≤ b.size) (hn : n ≤ 128) (w : World) : Calls Tryd.prog 74 #[.string b, .int .i64 (a : Int), .int .i64 (n : Int)] w (EntRPost w b.data.toList a n) := by
  have hbl : b.data.toList.length = b.size := rfl
  by_cases h1 : b.size < a + 4 + n
  · have hlt : (b.size : Int) - (a : Int) < 4 + (n : Int) := by omega
    have hN : entR b.data.toList a n = none := by unfold entR; rw [if_pos (by rw [hbl]; exact h1)]
    have HN0 : Hid (∀ W, entR b.data.toList a n = none → Below w.heap.size w W → EntRPost w b.data.toList a n (.returned (.tuple #[.agg #[.int .i64 0, .string ⟨#[]⟩, .int .i64 0, .int .i64 0, .bool false], .int .i64 0, .bool false])) W) := Lib.hid (fun W h hW => ⟨hW, .inr ⟨h, rfl⟩⟩)
    go_enter Tryd.func74, Tryd.ntmps74
    go_wp2
    refine bodyPost_ret (v := .tuple #[.agg #[.int .i64 0, .string ⟨#[]⟩, .int .i64 0, .int .i64 0, .bool false], .int .i64 0, .bool false]) ?_ rfl (HN0.out _ hN ((Below.refl _ w).alloc (Nat.le_refl _) _))
    · rw [results_cell_tmp2B rfl]
      go_simp
  · have hlt : ¬ ((b.size : Int) - (a : Int) < 4 + (n : Int)) := by omega
    have hlo : ((a : Int) + 4 + n) ≤ (b.size : Int) := by omega
    have hfix : fixR b (a : Int) 4 = (numB 0 ((b.data.toList.drop a).take 4), 0) := by
      unfold fixR
      rw [if_neg (by omega), if_neg (by omega), Int.toNat_natCast]
      rfl
    have hV := fix4_lt b
    have CF := RefFix_calls b (by omega) (a : Int) 4
    rw [hfix] at CF
    have hV4 : numB 0 ((b.data.toList.drop a).take 4) < 4294967296 := by
      have h := numB_lt ((b.data.toList.drop a).take 4)
      have h2 : ((b.data.toList.drop a).take 4).length ≤ 4 := by rw [List.length_take]; exact Nat.min_le_left _ _
      have h3 : (256 : Nat) ^ ((b.data.toList.drop a).take 4).length ≤ 256 ^ 4 := Nat.pow_le_pow_right (by decide) h2
      have h4 : (256 : Nat) ^ 4 = 4294967296 := by decide
      omega
    obtain ⟨V, hVV⟩ : ∃ V, numB 0 ((b.data.toList.drop a).take 4) = V := ⟨_, rfl⟩
    rw [hVV] at CF hV4
    have HVV := Lib.hid hVV
    have HCF := Lib.hid CF
    clear CF hV hVV hfix
    go_enter Tryd.func74, Tryd.ntmps74
    go_wp2_with fail
    refine (HCF.out _).mono ?_
    rintro e w5 ⟨rfl, hw5⟩
    obtain rfl := hw5
    go_wp2_with fail
    obtain ⟨S, hS, hS2, hS3⟩ := name_cut b (a + 4 + n) b.size (by omega) (Nat.le_refl _)
    rw [hS]
    have CN := numbers_calls S (by omega) 2 (by decide) (w.alloc (.cells #[.int .i64 0, .string ⟨#[]⟩, .int .i64 0, .int .i64 0, .bool false] 33))
    have hS4 : S.data.toList = b.data.toList.drop (a + 4 + n) := by
      rw [hS2, List.take_of_length_le]
      rw [List.length_drop]
      omega
    rw [hS4] at CN
    refine CN.mono ?_
    rintro e w6 ⟨hb6, hor⟩
    have hb6' : Below w.heap.size w w6 := ((Below.refl _ w).alloc (Nat.le_refl _) _).trans (hb6.mono (by simp))
    have hbx := (hb6.block w.heap.size (by simp)).trans (World.alloc_heap_new w (.cells #[.int .i64 0, .string ⟨#[]⟩, .int .i64 0, .int .i64 0, .bool false] 33))
    have HB6 := Lib.hid hb6'
    have hws : w.heap.size < w6.heap.size := (Array.getElem?_eq_some_iff.1 hbx).1
    obtain ⟨d0, k0⟩ := arr_cell hbx (k := 0) rfl
    obtain ⟨d1, k1⟩ := arr_cell hbx (k := 1) rfl
    obtain ⟨d2, k2⟩ := arr_cell hbx (k := 2) rfl
    obtain ⟨d3, k3⟩ := arr_cell hbx (k := 3) rfl
    obtain ⟨d4, k4⟩ := arr_cell hbx (k := 4) rfl
    have HN0 : Hid (∀ W, entR b.data.toList a n = none → Below w.heap.size w W → EntRPost w b.data.toList a n (.returned (.tuple #[.agg #[.int .i64 0, .string ⟨#[]⟩, .int .i64 0, .int .i64 0, .bool false], .int .i64 0, .bool false])) W) := Lib.hid (fun W h hW => ⟨hW, .inr ⟨h, rfl⟩⟩)
    rcases hor with ⟨L, u, v, hnum, rfl, ho⟩ | ⟨hnum, rfl⟩
    · obtain ⟨hL2, hu, hLx⟩ := numR_some hnum
      rw [List.length_drop, hbl] at hu
      have hu2 : (a : Int) + 4 + n + u ≤ (b.size : Int) := by omega
      obtain ⟨l0, l1, rfl⟩ : ∃ x y, L = [x, y] := by
        match L, hL2 with
        | [x, y], _ => exact ⟨x, y, rfl⟩
      have hq0 := hLx l0 (by simp)
      have hq1 := hLx l1 (by simp)
      obtain ⟨vp, vc, rfl, _⟩ := own_rd ho
      obtain ⟨g, rfl, hg1, hg2⟩ := own_some ho (by simp)
      have c0 : w6.cell? ⟨g, 0, none⟩ = some (.int .i64 l0) := by rw [ho.cellAt 0 (by simp)]; rfl
      have c1 : w6.cell? ⟨g, 1, none⟩ = some (.int .i64 l1) := by rw [ho.cellAt 1 (by simp)]; rfl
      have hgne : g ≠ w.heap.size := by simp at hg1; omega
      by_cases hend : b.size ≤ a + 4 + n + u
      · have hN : entR b.data.toList a n = none := by
          unfold entR
          rw [if_neg (by omega), hnum]
          simp only
          rw [if_pos (by omega)]
        have hend2 : (b.size : Int) ≤ (a : Int) + 4 + n + u := by omega
        clear CN hb6 hb6' hbx ho hnum hS4 hS2 hLx hL2
        go_wp2
        refine bodyPost_ret (v := .tuple #[.agg #[.int .i64 0, .string ⟨#[]⟩, .int .i64 0, .int .i64 0, .bool false], .int .i64 0, .bool false]) ?_ rfl (HN0.out _ hN (below_five HB6.out (Nat.le_refl _) _ _ _ _ _))
        · rw [results_cell_tmp2B rfl]
          go_simp
      · have hlb : a + 4 + n + u < b.size := by omega
        have hend2 : ¬ ((b.size : Int) ≤ (a : Int) + 4 + n + u) := by omega
        have hend3 : (a : Int) + 4 + n + u < (b.size : Int) := by omega
        have hend4 : (0 : Int) ≤ (a : Int) + 4 + n + u := by omega
        have hend5 : ((a : Int) + 4 + n + u).toNat = a + 4 + n + u := by omega
        have hwV : IntKind.i64.wrap (V : Int) = (V : Int) := by rw [IntKind.wrap_i64]; omega
        obtain ⟨T, hT, hT2, hT3⟩ := name_cut b (a + 4) (a + 4 + n) (by omega) (by omega)
        have hent : entR b.data.toList a n = some (⟨V, T, l0, l1, ((b[a + 4 + n + u]'hlb).toNat : Int) == 1⟩, a + 4 + n + u + 1) := by
          unfold entR
          rw [if_neg (by omega), hnum]
          simp only
          rw [if_neg (by omega), HVV.out]
          have e1 : (⟨((b.data.toList.drop (a + 4)).take n).toArray⟩ : ByteArray) = T := by
            have h2 : a + 4 + n - (a + 4) = n := by omega
            rw [h2] at hT2
            rw [← hT2]
          have e2 : b.data.toList.getD (a + 4 + n + u) 0 = b[a + 4 + n + u]'hlb := by
            rw [List.getD, List.getElem?_eq_getElem (by rw [hbl]; exact hlb)]
            rfl
          rw [e1, e2, byte_one]
          rfl
        have HEnd : Hid (∀ W, Below w.heap.size w W → EntRPost w b.data.toList a n (.returned (.tuple #[.agg #[.int .i64 V, .string T, .int .i64 l0, .int .i64 l1, .bool (((b[a + 4 + n + u]'hlb).toNat : Int) == 1)], .int .i64 ((a : Int) + 4 + (n : Int) + (u : Int) + 1), .bool true])) W) := Lib.hid (fun W hW => ⟨hW, .inl ⟨_, _, hent, by
          unfold Ent.val
          have e3 : ((a + 4 + n + u + 1 : Nat) : Int) = (a : Int) + 4 + (n : Int) + (u : Int) + 1 := by omega
          rw [e3]⟩⟩)
        clear hent
        have hs0 : (0 : Int) ≤ (a : Int) + 4 := by omega
        have hs1 : (a : Int) + 4 ≤ (a : Int) + 4 + (n : Int) := by omega
        have hs2 : ((a : Int) + 4).toNat = a + 4 := by omega
        have hs3 : ((a : Int) + 4 + (n : Int)).toNat = a + 4 + n := by omega
        have hw1 : IntKind.i64.wrap ((a : Int) + 4) = (a : Int) + 4 := by rw [IntKind.wrap_i64]; omega
        have hw2 : IntKind.i64.wrap ((a : Int) + 4 + (n : Int)) = (a : Int) + 4 + (n : Int) := by rw [IntKind.wrap_i64]; omega
        have hw3 : IntKind.i64.wrap ((a : Int) + 4 + (n : Int) + (u : Int) + 1) = (a : Int) + 4 + (n : Int) + (u : Int) + 1 := by rw [IntKind.wrap_i64]; omega
        have hbu : ∀ (W : World) (T : ByteArray) (x4 : Bool), (Instr.build 33 #[(0, .int .i64 V), (1, .string T), (2, .int .i64 l0), (3, .int .i64 l1), (4, .bool x4)]).run Tryd.prog W = .ok (.agg #[.int .i64 V, .string T, .int .i64 l0, .int .i64 l1, .bool x4]) W := fun W T x4 => run_build W _ _ _ (by kernel_rfl)
        clear CN hb6 hb6' hbx ho hnum hS4 hS2 hLx hL2
        go_wp2
        refine wp_region_held_drew (S := (fun W => W.cell? ⟨g, 0, none⟩ = some (.int .i64 l0) ∧ W.cell? ⟨g, 1, none⟩ = some (.int .i64 l1))) (by kernel_rfl) ?_ (fun hHeld => ?_)
        · exact ⟨c0, c1⟩
        refine wpAnyH_take (i := 0) (oi := { dst := some 55, op := Op.move (Operand.tmp 9), type := 115, pos := "kindredref6.go:218", after := #[], guard := none }) (v := ?_) rfl (by kernel_rfl) (by kernel_rfl) (by kernel_rfl) (fun _ _ _ h => h) (Or.inl ⟨by rfl, ?_⟩) (by assumption) ?_
        rotate_left 1
        · intro w hSw
          (try dsimp only at hSw)
          go_simp
          try with_reducible rfl
        (try simp only [Act.put, List.setIfInBounds_toArray, List.set_cons_zero, List.set_cons_succ])
        refine wpAnyH_take (i := 1) (oi := { dst := some 56, op := Op.convert 115 3 (Operand.tmp 55), type := 3, pos := "kindredref6.go:218", after := #[{ on := 0, ground := Ground.data }], guard := none }) (v := ?_) rfl (by kernel_rfl) (by kernel_rfl) (by kernel_rfl) (fun _ _ _ h => h) (Or.inl ⟨by rfl, ?_⟩) (by assumption) ?_
        rotate_left 1
        · intro w hSw
          (try dsimp only at hSw)
          go_simp
          try with_reducible rfl
        (try simp only [Act.put, List.setIfInBounds_toArray, List.set_cons_zero, List.set_cons_succ])
        refine wpAnyH_take (i := 2) (oi := { dst := some 57, op := Op.move (Operand.tmp 0), type := 9, pos := "kindredref6.go:218", after := #[], guard := none }) (v := ?_) rfl (by kernel_rfl) (by kernel_rfl) (by kernel_rfl) (fun _ _ _ h => h) (Or.inl ⟨by rfl, ?_⟩) (by assumption) ?_
        rotate_left 1
        · intro w hSw
          (try dsimp only at hSw)
          go_simp
          try with_reducible rfl
        (try simp only [Act.put, List.setIfInBounds_toArray, List.set_cons_zero, List.set_cons_succ])
        refine wpAnyH_take (i := 3) (oi := { dst := some 58, op := Op.move (Operand.tmp 1), type := 3, pos := "kindredref6.go:218", after := #[], guard := none }) (v := ?_) rfl (by kernel_rfl) (by kernel_rfl) (by kernel_rfl) (fun _ _ _ h => h) (Or.inl ⟨by rfl, ?_⟩) (by assumption) ?_
        rotate_left 1
        · intro w hSw
          (try dsimp only at hSw)
          go_simp
          try with_reducible rfl
        (try simp only [Act.put, List.setIfInBounds_toArray, List.set_cons_zero, List.set_cons_succ])
        refine wpAnyH_take (i := 4) (oi := { dst := some 59, op := Op.binOp BinOp.add 3 (Operand.tmp 58) (Operand.const (Value.int IntKind.i64 4)) 3, type := 3, pos := "kindredref6.go:218", after := #[{ on := 3, ground := Ground.data }], guard := none }) (v := ?_) rfl (by kernel_rfl) (by kernel_rfl) (by kernel_rfl) (fun _ _ _ h => h) (Or.inl ⟨by rfl, ?_⟩) (by assumption) ?_
        rotate_left 1
        · intro w hSw
          (try dsimp only at hSw)
          go_simp
          try with_reducible rfl
        (try simp only [Act.put, List.setIfInBounds_toArray, List.set_cons_zero, List.set_cons_succ])
        refine wpAnyH_take (i := 5) (oi := { dst := some 60, op := Op.move (Operand.tmp 1), type := 3, pos := "kindredref6.go:218", after := #[], guard := none }) (v := ?_) rfl (by kernel_rfl) (by kernel_rfl) (by kernel_rfl) (fun _ _ _ h => h) (Or.inl ⟨by rfl, ?_⟩) (by assumption) ?_
        rotate_left 1
        · intro w hSw
          (try dsimp only at hSw)
          go_simp
          try with_reducible rfl
        (try simp only [Act.put, List.setIfInBounds_toArray, List.set_cons_zero, List.set_cons_succ])
        refine wpAnyH_take (i := 6) (oi := { dst := some 61, op := Op.binOp BinOp.add 3 (Operand.tmp 60) (Operand.const (Value.int IntKind.i64 4)) 3, type := 3, pos := "kindredref6.go:218", after := #[{ on := 5, ground := Ground.data }], guard := none }) (v := ?_) rfl (by kernel_rfl) (by kernel_rfl) (by kernel_rfl) (fun _ _ _ h => h) (Or.inl ⟨by rfl, ?_⟩) (by assumption) ?_
        rotate_left 1
        · intro w hSw
          (try dsimp only at hSw)
          go_simp
          try with_reducible rfl
        (try simp only [Act.put, List.setIfInBounds_toArray, List.set_cons_zero, List.set_cons_succ])
        refine wpAnyH_take (i := 7) (oi := { dst := some 62, op := Op.move (Operand.tmp 2), type := 3, pos := "kindredref6.go:218", after := #[], guard := none }) (v := ?_) rfl (by kernel_rfl) (by kernel_rfl) (by kernel_rfl) (fun _ _ _ h => h) (Or.inl ⟨by rfl, ?_⟩) (by assumption) ?_
        rotate_left 1
        · intro w hSw
          (try dsimp only at hSw)
          go_simp
          try with_reducible rfl
        (try simp only [Act.put, List.setIfInBounds_toArray, List.set_cons_zero, List.set_cons_succ])
        refine wpAnyH_take (i := 8) (oi := { dst := some 63, op := Op.binOp BinOp.add 3 (Operand.tmp 61) (Operand.tmp 62) 3, type := 3, pos := "kindredref6.go:218", after := #[{ on := 6, ground := Ground.data }, { on := 7, ground := Ground.data }], guard := none }) (v := ?_) rfl (by kernel_rfl) (by kernel_rfl) (by kernel_rfl) (fun _ _ _ h => h) (Or.inl ⟨by rfl, ?_⟩) (by assumption) ?_
        rotate_left 1
        · intro w hSw
          (try dsimp only at hSw)
          go_simp
          try with_reducible rfl
        (try simp only [Act.put, List.setIfInBounds_toArray, List.set_cons_zero, List.set_cons_succ])
        refine wpAnyH_take (i := 9) (oi := { dst := some 64, op := Op.slice 9 (Operand.tmp 57) (some (Operand.tmp 59)) (some (Operand.tmp 63)) none, type := 9, pos := "kindredref6.go:218", after := #[{ on := 2, ground := Ground.data }, { on := 4, ground := Ground.data }, { on := 8, ground := Ground.data }], guard := none }) (v := ?_) rfl (by kernel_rfl) (by kernel_rfl) (by kernel_rfl) (fun _ _ _ h => h) (Or.inl ⟨by rfl, ?_⟩) (by assumption) ?_
        rotate_left 1
        · intro w hSw
          (try dsimp only at hSw)
          go_simp
          try with_reducible rfl
        (try simp only [Act.put, List.setIfInBounds_toArray, List.set_cons_zero, List.set_cons_succ])
        refine wpAnyH_take (i := 10) (oi := { dst := some 65, op := Op.move (Operand.tmp 11), type := 47, pos := "kindredref6.go:218", after := #[], guard := none }) (v := ?_) rfl (by kernel_rfl) (by kernel_rfl) (by kernel_rfl) (fun _ _ _ h => h) (Or.inl ⟨by rfl, ?_⟩) (by assumption) ?_
        rotate_left 1
        · intro w hSw
          (try dsimp only at hSw)
          go_simp
          try with_reducible rfl
        (try simp only [Act.put, List.setIfInBounds_toArray, List.set_cons_zero, List.set_cons_succ])
        refine wpAnyH_take (i := 11) (oi := { dst := some 66, op := Op.indexAddr 47 (Operand.tmp 65) (Operand.const (Value.int IntKind.i64 0)), type := 0, pos := "kindredref6.go:218", after := #[{ on := 10, ground := Ground.data }], guard := none }) (v := ?_) rfl (by kernel_rfl) (by kernel_rfl) (by kernel_rfl) (fun _ _ _ h => h) (Or.inl ⟨by rfl, ?_⟩) (by assumption) ?_
        rotate_left 1
        · intro w hSw
          (try dsimp only at hSw)
          go_simp
          try with_reducible rfl
        (try simp only [Act.put, List.setIfInBounds_toArray, List.set_cons_zero, List.set_cons_succ])
        refine wpAnyH_take (i := 12) (oi := { dst := some 67, op := Op.load 3 (Operand.tmp 66), type := 3, pos := "kindredref6.go:218", after := #[{ on := 11, ground := Ground.data }], guard := none }) (v := ?_) rfl (by kernel_rfl) (by kernel_rfl) (by kernel_rfl) (fun _ _ _ h => h) (Or.inl ⟨by rfl, ?_⟩) (by assumption) ?_
        rotate_left 1
        · intro w hSw
          (try dsimp only at hSw)
          go_simp
          try with_reducible rfl
        (try simp only [Act.put, List.setIfInBounds_toArray, List.set_cons_zero, List.set_cons_succ])
        refine wpAnyH_take (i := 13) (oi := { dst := some 68, op := Op.move (Operand.tmp 11), type := 47, pos := "kindredref6.go:218", after := #[], guard := none }) (v := ?_) rfl (by kernel_rfl) (by kernel_rfl) (by kernel_rfl) (fun _ _ _ h => h) (Or.inl ⟨by rfl, ?_⟩) (by assumption) ?_
        rotate_left 1
        · intro w hSw
          (try dsimp only at hSw)
          go_simp
          try with_reducible rfl
        (try simp only [Act.put, List.setIfInBounds_toArray, List.set_cons_zero, List.set_cons_succ])
        refine wpAnyH_take (i := 14) (oi := { dst := some 69, op := Op.indexAddr 47 (Operand.tmp 68) (Operand.const (Value.int IntKind.i64 1)), type := 0, pos := "kindredref6.go:218", after := #[{ on := 13, ground := Ground.data }], guard := none }) (v := ?_) rfl (by kernel_rfl) (by kernel_rfl) (by kernel_rfl) (fun _ _ _ h => h) (Or.inl ⟨by rfl, ?_⟩) (by assumption) ?_
        rotate_left 1
        · intro w hSw
          (try dsimp only at hSw)
          go_simp
          try with_reducible rfl
        (try simp only [Act.put, List.setIfInBounds_toArray, List.set_cons_zero, List.set_cons_succ])
        refine wpAnyH_take (i := 15) (oi := { dst := some 70, op := Op.load 3 (Operand.tmp 69), type := 3, pos := "kindredref6.go:218", after := #[{ on := 14, ground := Ground.data }], guard := none }) (v := ?_) rfl (by kernel_rfl) (by kernel_rfl) (by kernel_rfl) (fun _ _ _ h => h) (Or.inl ⟨by rfl, ?_⟩) (by assumption) ?_
        rotate_left 1
        · intro w hSw
          (try dsimp only at hSw)
          go_simp
          try with_reducible rfl
        (try simp only [Act.put, List.setIfInBounds_toArray, List.set_cons_zero, List.set_cons_succ])
        refine wpAnyH_take (i := 16) (oi := { dst := some 71, op := Op.move (Operand.tmp 0), type := 9, pos := "kindredref6.go:218", after := #[], guard := none }) (v := ?_) rfl (by kernel_rfl) (by kernel_rfl) (by kernel_rfl) (fun _ _ _ h => h) (Or.inl ⟨by rfl, ?_⟩) (by assumption) ?_
        rotate_left 1
        · intro w hSw
          (try dsimp only at hSw)
          go_simp
          try with_reducible rfl
        (try simp only [Act.put, List.setIfInBounds_toArray, List.set_cons_zero, List.set_cons_succ])
        refine wpAnyH_take (i := 17) (oi := { dst := some 72, op := Op.move (Operand.tmp 14), type := 3, pos := "kindredref6.go:218", after := #[], guard := none }) (v := ?_) rfl (by kernel_rfl) (by kernel_rfl) (by kernel_rfl) (fun _ _ _ h => h) (Or.inl ⟨by rfl, ?_⟩) (by assumption) ?_
        rotate_left 1
        · intro w hSw
          (try dsimp only at hSw)
          go_simp
          try with_reducible rfl
        (try simp only [Act.put, List.setIfInBounds_toArray, List.set_cons_zero, List.set_cons_succ])
        refine wpAnyH_take (i := 18) (oi := { dst := some 73, op := Op.index 9 (Operand.tmp 71) (Operand.tmp 72), type := 5, pos := "kindredref6.go:218", after := #[{ on := 16, ground := Ground.data }, { on := 17, ground := Ground.data }], guard := none }) (v := ?_) rfl (by kernel_rfl) (by kernel_rfl) (by kernel_rfl) (fun _ _ _ h => h) (Or.inl ⟨by rfl, ?_⟩) (by assumption) ?_
        rotate_left 1
        · intro w hSw
          (try dsimp only at hSw)
          go_simp
          try with_reducible rfl
        (try simp only [Act.put, List.setIfInBounds_toArray, List.set_cons_zero, List.set_cons_succ])
        refine wpAnyH_take (i := 19) (oi := { dst := some 74, op := Op.binOp BinOp.eql 5 (Operand.tmp 73) (Operand.const (Value.int IntKind.u8 1)) 5, type := 4, pos := "kindredref6.go:218", after := #[{ on := 18, ground := Ground.data }], guard := none }) (v := ?_) rfl (by kernel_rfl) (by kernel_rfl) (by kernel_rfl) (fun _ _ _ h => h) (Or.inl ⟨by rfl, ?_⟩) (by assumption) ?_
        rotate_left 1
        · intro w hSw
          (try dsimp only at hSw)
          go_simp
          try with_reducible rfl
        (try simp only [Act.put, List.setIfInBounds_toArray, List.set_cons_zero, List.set_cons_succ])
        refine wpAnyH_take (i := 20) (oi := { dst := some 75, op := Op.build 33 #[(0, Operand.tmp 56), (1, Operand.tmp 64), (2, Operand.tmp 67), (3, Operand.tmp 70), (4, Operand.tmp 74)], type := 33, pos := "kindredref6.go:218", after := #[{ on := 1, ground := Ground.data }, { on := 9, ground := Ground.data }, { on := 12, ground := Ground.data }, { on := 15, ground := Ground.data }, { on := 19, ground := Ground.data }], guard := none }) (v := ?_) rfl (by kernel_rfl) (by kernel_rfl) (by kernel_rfl) (fun _ _ _ h => h) (Or.inl ⟨by rfl, ?_⟩) (by assumption) ?_
        rotate_left 1
        · intro w hSw
          (try dsimp only at hSw)
          go_simp
          try with_reducible rfl
        (try simp only [Act.put, List.setIfInBounds_toArray, List.set_cons_zero, List.set_cons_succ])
        refine wpAnyH_take (i := 21) (oi := { dst := some 76, op := Op.move (Operand.tmp 14), type := 3, pos := "kindredref6.go:218", after := #[{ on := 23, ground := Ground.gcOnly Departure.lateStores }], guard := none }) (v := ?_) rfl (by kernel_rfl) (by kernel_rfl) (by kernel_rfl) (fun _ _ _ h => h) (Or.inl ⟨by rfl, ?_⟩) (by assumption) ?_
        rotate_left 1
        · intro w hSw
          (try dsimp only at hSw)
          go_simp
          try with_reducible rfl
        (try simp only [Act.put, List.setIfInBounds_toArray, List.set_cons_zero, List.set_cons_succ])
        refine wpAnyH_take (i := 22) (oi := { dst := some 77, op := Op.binOp BinOp.add 3 (Operand.tmp 76) (Operand.const (Value.int IntKind.i64 1)) 3, type := 3, pos := "kindredref6.go:218", after := #[{ on := 21, ground := Ground.data }, { on := 23, ground := Ground.gcOnly Departure.lateStores }], guard := none }) (v := ?_) rfl (by kernel_rfl) (by kernel_rfl) (by kernel_rfl) (fun _ _ _ h => h) (Or.inl ⟨by rfl, ?_⟩) (by assumption) ?_
        rotate_left 1
        · intro w hSw
          (try dsimp only at hSw)
          go_simp
          try with_reducible rfl
        (try simp only [Act.put, List.setIfInBounds_toArray, List.set_cons_zero, List.set_cons_succ])
        refine wpAnyH_ready (rs := [23]) (by kernel_rfl) (by simp) ?_
        refine AllReadyH.cons (o := { dst := none, op := Op.store 33 (Operand.tmp 6) (Operand.tmp 75), type := 0, pos := "kindredref6.go:218", after := #[{ on := 20, ground := Ground.data }, { on := 0, ground := Ground.phase }, { on := 1, ground := Ground.phase }, { on := 2, ground := Ground.phase }, { on := 3, ground := Ground.phase }, { on := 4, ground := Ground.phase }, { on := 5, ground := Ground.phase }, { on := 6, ground := Ground.phase }, { on := 7, ground := Ground.phase }, { on := 8, ground := Ground.phase }, { on := 9, ground := Ground.phase }, { on := 10, ground := Ground.phase }, { on := 11, ground := Ground.phase }, { on := 12, ground := Ground.phase }, { on := 13, ground := Ground.phase }, { on := 14, ground := Ground.phase }, { on := 15, ground := Ground.phase }, { on := 16, ground := Ground.phase }, { on := 17, ground := Ground.phase }, { on := 18, ground := Ground.phase }, { on := 19, ground := Ground.phase }, { on := 20, ground := Ground.phase }, { on := 21, ground := Ground.textOnly Departure.lateStores }, { on := 22, ground := Ground.textOnly Departure.lateStores }], guard := none }) rfl (fun K hK => ?_) ?_
        rotate_left 1
        · exact AllReadyH.nil
        go_simp
        refine hK.out _ _ ?_ (fun hHeld23 => ?_)
        · refine ⟨(World.cell?_of_block (a := ⟨g, 0, none⟩) ?_).trans c0, (World.cell?_of_block (a := ⟨g, 1, none⟩) ?_).trans c1⟩ <;> (rw [heap_drewX]; exact far5 hgne _ _ _ _ _)
        clear hK K
        (try simp only [Act.put, List.setIfInBounds_toArray, List.set_cons_zero, List.set_cons_succ])
        refine wpAnyH_take (i := 24) (oi := { dst := some 7, op := Op.assign (Operand.tmp 77), type := 3, pos := "kindredref6.go:218", after := #[{ on := 22, ground := Ground.data }, { on := 23, ground := Ground.chain }, { on := 0, ground := Ground.phase }, { on := 1, ground := Ground.phase }, { on := 2, ground := Ground.phase }, { on := 3, ground := Ground.phase }, { on := 4, ground := Ground.phase }, { on := 5, ground := Ground.phase }, { on := 6, ground := Ground.phase }, { on := 7, ground := Ground.phase }, { on := 8, ground := Ground.phase }, { on := 9, ground := Ground.phase }, { on := 10, ground := Ground.phase }, { on := 11, ground := Ground.phase }, { on := 12, ground := Ground.phase }, { on := 13, ground := Ground.phase }, { on := 14, ground := Ground.phase }, { on := 15, ground := Ground.phase }, { on := 16, ground := Ground.phase }, { on := 17, ground := Ground.phase }, { on := 18, ground := Ground.phase }, { on := 19, ground := Ground.phase }, { on := 20, ground := Ground.phase }, { on := 21, ground := Ground.phase }, { on := 22, ground := Ground.phase }, { on := 23, ground := Ground.phase }], guard := none }) (v := ?_) rfl (by kernel_rfl) (by kernel_rfl) (by kernel_rfl) (fun _ _ _ h => h) (Or.inl ⟨by rfl, ?_⟩) (by assumption) ?_
        rotate_left 1
        · intro w hSw
          (try dsimp only at hSw)
          go_simp
          try with_reducible rfl
        (try simp only [Act.put, List.setIfInBounds_toArray, List.set_cons_zero, List.set_cons_succ])
        refine wpAnyH_take (i := 25) (oi := { dst := some 8, op := Op.assign (Operand.const (Value.bool true)), type := 4, pos := "kindredref6.go:218", after := #[{ on := 24, ground := Ground.chain }, { on := 0, ground := Ground.phase }, { on := 1, ground := Ground.phase }, { on := 2, ground := Ground.phase }, { on := 3, ground := Ground.phase }, { on := 4, ground := Ground.phase }, { on := 5, ground := Ground.phase }, { on := 6, ground := Ground.phase }, { on := 7, ground := Ground.phase }, { on := 8, ground := Ground.phase }, { on := 9, ground := Ground.phase }, { on := 10, ground := Ground.phase }, { on := 11, ground := Ground.phase }, { on := 12, ground := Ground.phase }, { on := 13, ground := Ground.phase }, { on := 14, ground := Ground.phase }, { on := 15, ground := Ground.phase }, { on := 16, ground := Ground.phase }, { on := 17, ground := Ground.phase }, { on := 18, ground := Ground.phase }, { on := 19, ground := Ground.phase }, { on := 20, ground := Ground.phase }, { on := 21, ground := Ground.phase }, { on := 22, ground := Ground.phase }, { on := 23, ground := Ground.phase }, { on := 24, ground := Ground.phase }], guard := none }) (v := ?_) rfl (by kernel_rfl) (by kernel_rfl) (by kernel_rfl) (fun _ _ _ h => h) (Or.inl ⟨by rfl, ?_⟩) (by assumption) ?_
        rotate_left 1
        · intro w hSw
          (try dsimp only at hSw)
          go_simp
          try with_reducible rfl
        (try simp only [Act.put, List.setIfInBounds_toArray, List.set_cons_zero, List.set_cons_succ])
        refine wpAnyH_done (by kernel_rfl) ?_ _
        go_wp2
        refine bodyPost_ret (v := .tuple #[.agg #[.int .i64 V, .string T, .int .i64 l0, .int .i64 l1, .bool (((b[a + 4 + n + u]'hlb).toNat : Int) == 1)], .int .i64 ((a : Int) + 4 + (n : Int) + (u : Int) + 1), .bool true]) ?_ rfl (HEnd.out _ (below_five HB6.out (Nat.le_refl _) _ _ _ _ _).drew)
        · rw [results_cell_tmp2B rfl]
          go_simp
    · have hN : entR b.data.toList a n = none := by
        unfold entR
        rw [if_neg (by omega), hnum]
      clear CN hb6 hb6' hbx hnum hS4 hS2
      go_wp2
      refine bodyPost_ret (v := .tuple #[.agg #[.int .i64 0, .string ⟨#[]⟩, .int .i64 0, .int .i64 0, .bool false], .int .i64 0, .bool false]) ?_ rfl (HN0.out _ hN (below_five HB6.out (Nat.le_refl _) _ _ _ _ _))
      · rw [results_cell_tmp2B rfl]
        go_simp
end Go.Proofs.YtihgjihdmlomaaaDoor

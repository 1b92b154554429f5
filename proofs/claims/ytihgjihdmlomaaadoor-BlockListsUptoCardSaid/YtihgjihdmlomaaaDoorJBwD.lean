/-
  WALK: the head and the entries that frames tell (the document's read).
-/
import Derived.Test.YtihgjihdmlomaaaDoorJBwB
import Derived.Test.YtihgjihdmlomaaaDoorJC
namespace Go.Proofs.YtihgjihdmlomaaaDoor
open Go.RowKit ArgK
set_option linter.unusedVariables false

def ReadPost (w : World) (fs : List (Int × List UInt8 × Nat)) (e : Ending) (w' : World) : Prop :=
  Below w.heap.size w w' ∧ ((∃ h l v, readR fs = some (h, l) ∧ e = .returned (.tuple #[h.val, v, .bool true]) ∧ w'.ownsRow w.heap.size 33 5 v l.length (encE l) ∧ l.length ≤ 4398046511104 ∧ ∀ x ∈ l, x.c.size ≤ 128) ∨
    (readR fs = none ∧ e = .returned (.tuple #[.agg #[.int .i64 0, .int .i64 0, .int .i64 0, .int .i64 0, .int .i64 0, .int .i64 0], .slice none 0 0, .bool false])))

def zero6 : Obj := .cells #[.int .i64 0, .int .i64 0, .int .i64 0, .int .i64 0, .int .i64 0, .int .i64 0] 23 (0, 0)

/-- At the head of each round over the frames. -/
def RdRel (w : World) (hb : Nat) (h : Hd) (fv : Value) (fs : List (Int × List UInt8 × Nat)) (cb : Nat) (R : Option (List Ent)) (k : Nat) (lv : Value) (wr : World) : Prop :=
  ∃ acc, 1 ≤ k ∧ k ≤ fs.length ∧ readFs cb (fs.drop k) acc = R ∧ acc.length ≤ 1048577 * k ∧ (∀ e ∈ acc, e.c.size ≤ 128) ∧ wr.heap[w.heap.size]? = some zero6 ∧
    wr.heap[hb]? = some (.cells #[.int .i64 h.w, .int .i64 h.t, .int .i64 h.b, .int .i64 h.lo, .int .i64 h.hi, .int .i64 h.n] 23 (0, 0)) ∧ wr.ownsRow (w.heap.size + 1) 33 5 lv acc.length (encE acc) ∧ Below w.heap.size w wr
/-- At the head of each round over a frame's entries. -/
def RdiRel (w : World) (hb : Nat) (h : Hd) (cb : Nat) (pl : List UInt8) (k : Nat) (R : Option (List Ent)) (a : Nat) (lv : Value) (wr : World) : Prop :=
  ∃ acc f, a ≤ pl.length ∧ pl.length < a + f ∧ readB cb pl f a acc = R ∧ acc.length ≤ 1048577 * k + a ∧ (∀ e ∈ acc, e.c.size ≤ 128) ∧ wr.heap[w.heap.size]? = some zero6 ∧
    wr.heap[hb]? = some (.cells #[.int .i64 h.w, .int .i64 h.t, .int .i64 h.b, .int .i64 h.lo, .int .i64 h.hi, .int .i64 h.n] 23 (0, 0)) ∧ wr.ownsRow (w.heap.size + 1) 33 5 lv acc.length (encE acc) ∧ Below w.heap.size w wr

theorem set_five {W : World} {g : Nat} {a0 a1 a2 a3 a4 : Value} {T : TypeId} (h : W.heap[g]? = some (.cells #[a0, a1, a2, a3, a4] T (0, 0))) (v0 v1 v2 v3 v4 : Value) : (((((W.setCell ⟨g, 0, none⟩ v0).setCell ⟨g, 1, none⟩ v1).setCell ⟨g, 2, none⟩ v2).setCell ⟨g, 3, none⟩ v3).setCell ⟨g, 4, none⟩ v4).heap[g]? = some (.cells #[v0, v1, v2, v3, v4] T (0, 0)) :=
  arr_set (k := 4) (arr_set (k := 3) (arr_set (k := 2) (arr_set (k := 1) (arr_set (k := 0) h v0) v1) v2) v3) v4
theorem own_six {W : World} {base : Nat} {e : TypeId} {size : Nat} {v : Value} {n : Nat} {xs : List Value} (h : W.ownsRow (base + 1) e size v n xs) {g : Nat} (hg : g ≤ base) (v0 v1 v2 v3 v4 v5 : Value) : ((((((W.setCell ⟨g, 0, none⟩ v0).setCell ⟨g, 1, none⟩ v1).setCell ⟨g, 2, none⟩ v2).setCell ⟨g, 3, none⟩ v3).setCell ⟨g, 4, none⟩ v4).setCell ⟨g, 5, none⟩ v5).ownsRow (base + 1) e size v n xs := by
  have hn : v.ownBlock ≠ some g := fun e => by have := (h.lt g e).1; omega
  exact own_setCell (own_setCell (own_setCell (own_setCell (own_setCell (own_setCell h (p := ⟨g, 0, none⟩) hn v0) (p := ⟨g, 1, none⟩) hn v1) (p := ⟨g, 2, none⟩) hn v2) (p := ⟨g, 3, none⟩) hn v3) (p := ⟨g, 4, none⟩) hn v4) (p := ⟨g, 5, none⟩) hn v5



set_option maxRecDepth 100000 in
set_option maxHeartbeats 4000000 in
theorem read_calls (base : Nat) (fv : Value) (fs : List (Int × List UInt8 × Nat)) (hn : fs.length ≤ 1048576) (hE : ∀ x ∈ fs, x.2.1.length ≤ 1048576) (w : World) (ho : w.ownsRow base 83 3 fv fs.length (encF fs)) :
    Calls Tryd.prog 48 #[fv] w (ReadPost w fs) := by
  obtain ⟨i0, hi, hz0, hz1, hz2⟩ := info_parts entinfo6
  obtain ⟨fp, fc, rfl, _⟩ := own_rd ho
  have HN0 : Hid (∀ W, readR fs = none → Below w.heap.size w W → ReadPost w fs (.returned (.tuple #[.agg #[.int .i64 0, .int .i64 0, .int .i64 0, .int .i64 0, .int .i64 0, .int .i64 0], .slice none 0 0, .bool false])) W) := Lib.hid (fun W h hW => ⟨hW, .inr ⟨h, rfl⟩⟩)
  cases fs with
  | nil =>
    have hN : readR [] = none := rfl
    have HE := Lib.hid (HN0.out _ hN ((Below.refl _ w).alloc (Nat.le_refl _) zero6))
    unfold zero6 at HE
    clear ho HN0
    go_enter Tryd.func48, Tryd.ntmps48
    go_wp2
    refine bodyPost_ret (v := .tuple #[.agg #[.int .i64 0, .int .i64 0, .int .i64 0, .int .i64 0, .int .i64 0, .int .i64 0], .slice none 0 0, .bool false]) ?_ rfl HE.out
    rw [results_cell_tmp2B rfl]
    go_simp
  | cons x fr =>
    obtain ⟨fg, rfl, _, hfg⟩ := own_some ho (by simp)
    have k0 : w.cell? ⟨fg, 0, none⟩ = some (.int .i64 x.1) := by rw [ho.cellAt 0 (by simp)]; rfl
    have k1 : w.cell? ⟨fg, 1, none⟩ = some (.string ⟨x.2.1.toArray⟩) := by rw [ho.cellAt 1 (by simp; omega)]; rfl
    obtain ⟨kd, hkd⟩ : ∃ k, x.1 = k := ⟨_, rfl⟩
    obtain ⟨pl, hpl⟩ : ∃ s : ByteArray, (⟨x.2.1.toArray⟩ : ByteArray) = s := ⟨_, rfl⟩
    have hpl2 : pl.data.toList = x.2.1 := by rw [← hpl]
    have hpls : pl.size ≤ 1048576 := by
      have h1 : pl.size = pl.data.toList.length := rfl
      rw [h1, hpl2]
      exact hE x (List.mem_cons_self ..)
    rw [hkd] at k0
    rw [hpl] at k1
    obtain ⟨nf, hnf⟩ : ∃ nf, (x :: fr).length = nf := ⟨_, rfl⟩
    rw [hnf] at ho hn ⊢
    have hnf1 : 1 ≤ nf := by rw [← hnf]; simp
    have HO := Lib.hid ho
    have hfgw : ¬ (w.heap.size = fg) := by omega
    by_cases hk4 : kd = 4
    · subst hk4
      have CN := fun W => numbers_calls pl (by omega) 6 (by decide) W
      have HCN := Lib.hid CN
      have hne4 : ¬ ((nf : Int) = 0) := by omega
      clear CN ho
      go_enter Tryd.func48, Tryd.ntmps48
      go_wp2_with fail
      refine (HCN.out _).mono ?_
      rintro e w2 ⟨hb2, hor⟩
      have hb2' : Below w.heap.size w w2 := ((Below.refl _ w).alloc (Nat.le_refl _) _).trans (hb2.mono (by simp))
      have hzx := (hb2.block w.heap.size (by simp)).trans (World.alloc_heap_new w zero6)
      have HZX := Lib.hid hzx
      unfold zero6 at hzx
      have HB2 := Lib.hid hb2'
      have hws : w.heap.size < w2.heap.size := (Array.getElem?_eq_some_iff.1 hzx).1
      obtain ⟨d0, k0⟩ := arr_cell hzx (k := 0) rfl
      obtain ⟨d1, k1⟩ := arr_cell hzx (k := 1) rfl
      obtain ⟨d2, k2⟩ := arr_cell hzx (k := 2) rfl
      obtain ⟨d3, k3⟩ := arr_cell hzx (k := 3) rfl
      obtain ⟨d4, k4⟩ := arr_cell hzx (k := 4) rfl
      obtain ⟨d5, k5⟩ := arr_cell hzx (k := 5) rfl
      rcases hor with ⟨L, u, v, hnum, rfl, hov⟩ | ⟨hnum, rfl⟩
      · obtain ⟨hL6, hu, hLx⟩ := numR_some hnum
        obtain ⟨vp, vc, rfl, _⟩ := own_rd hov
        obtain ⟨g, rfl, hg1, hg2⟩ := own_some hov (by omega)
        obtain ⟨n0, n1, n2, n3, n4, n5, rfl⟩ : ∃ n0 n1 n2 n3 n4 n5, L = [n0, n1, n2, n3, n4, n5] := by
          match L, hL6 with
          | [n0, n1, n2, n3, n4, n5], _ => exact ⟨n0, n1, n2, n3, n4, n5, rfl⟩
        have c0 : w2.cell? ⟨g, 0, none⟩ = some (.int .i64 n0) := by rw [hov.cellAt 0 (by simp)]; rfl
        have c1 : w2.cell? ⟨g, 1, none⟩ = some (.int .i64 n1) := by rw [hov.cellAt 1 (by simp)]; rfl
        have c2 : w2.cell? ⟨g, 2, none⟩ = some (.int .i64 n2) := by rw [hov.cellAt 2 (by simp)]; rfl
        have c3 : w2.cell? ⟨g, 3, none⟩ = some (.int .i64 n3) := by rw [hov.cellAt 3 (by simp)]; rfl
        have c4 : w2.cell? ⟨g, 4, none⟩ = some (.int .i64 n4) := by rw [hov.cellAt 4 (by simp)]; rfl
        have c5 : w2.cell? ⟨g, 5, none⟩ = some (.int .i64 n5) := by rw [hov.cellAt 5 (by simp)]; rfl
        have hq0 := hLx n0 (by simp)
        have hgn : g ≠ w2.heap.size := Nat.ne_of_lt hg2
        have hbu : ∀ (W : World), (Instr.build 23 #[(0, .int .i64 n0), (1, .int .i64 n1), (2, .int .i64 n2), (3, .int .i64 n3), (4, .int .i64 n4), (5, .int .i64 n5)]).run Tryd.prog W = .ok (.agg #[.int .i64 n0, .int .i64 n1, .int .i64 n2, .int .i64 n3, .int .i64 n4, .int .i64 n5]) W := fun W => run_build W _ _ _ (by kernel_rfl)
        have HNum := Lib.hid hnum
        have HLx := Lib.hid hLx
        clear hov hnum hLx hL6 hzx
        simp only [List.length_cons, List.length_nil, Nat.zero_add, Nat.reduceAdd]
        go_wp2
        refine wp_region_held_drew (S := (fun W => W.cell? ⟨g, 0, none⟩ = some (.int .i64 n0) ∧ W.cell? ⟨g, 1, none⟩ = some (.int .i64 n1) ∧ W.cell? ⟨g, 2, none⟩ = some (.int .i64 n2) ∧ W.cell? ⟨g, 3, none⟩ = some (.int .i64 n3) ∧ W.cell? ⟨g, 4, none⟩ = some (.int .i64 n4) ∧ W.cell? ⟨g, 5, none⟩ = some (.int .i64 n5))) (by kernel_rfl) ?_ (fun hHeld => ?_)
        · exact ⟨c0, c1, c2, c3, c4, c5⟩
        refine wpAnyH_take (i := 0) (oi := { dst := some 39, op := Op.move (Operand.tmp 5), type := 47, pos := "kindredref6.go:230", after := #[], guard := none }) (v := ?_) rfl (by kernel_rfl) (by kernel_rfl) (by kernel_rfl) (fun _ _ _ h => h) (Or.inl ⟨by rfl, ?_⟩) (by assumption) ?_
        rotate_left 1
        · intro w hSw
          (try dsimp only at hSw)
          go_simp
          try with_reducible rfl
        (try simp only [Act.put, List.setIfInBounds_toArray, List.set_cons_zero, List.set_cons_succ])
        refine wpAnyH_take (i := 1) (oi := { dst := some 40, op := Op.indexAddr 47 (Operand.tmp 39) (Operand.const (Value.int IntKind.i64 0)), type := 0, pos := "kindredref6.go:230", after := #[{ on := 0, ground := Ground.data }], guard := none }) (v := ?_) rfl (by kernel_rfl) (by kernel_rfl) (by kernel_rfl) (fun _ _ _ h => h) (Or.inl ⟨by rfl, ?_⟩) (by assumption) ?_
        rotate_left 1
        · intro w hSw
          (try dsimp only at hSw)
          go_simp
          try with_reducible rfl
        (try simp only [Act.put, List.setIfInBounds_toArray, List.set_cons_zero, List.set_cons_succ])
        refine wpAnyH_take (i := 2) (oi := { dst := some 41, op := Op.load 3 (Operand.tmp 40), type := 3, pos := "kindredref6.go:230", after := #[{ on := 1, ground := Ground.data }], guard := none }) (v := ?_) rfl (by kernel_rfl) (by kernel_rfl) (by kernel_rfl) (fun _ _ _ h => h) (Or.inl ⟨by rfl, ?_⟩) (by assumption) ?_
        rotate_left 1
        · intro w hSw
          (try dsimp only at hSw)
          go_simp
          try with_reducible rfl
        (try simp only [Act.put, List.setIfInBounds_toArray, List.set_cons_zero, List.set_cons_succ])
        refine wpAnyH_take (i := 3) (oi := { dst := some 42, op := Op.move (Operand.tmp 5), type := 47, pos := "kindredref6.go:230", after := #[], guard := none }) (v := ?_) rfl (by kernel_rfl) (by kernel_rfl) (by kernel_rfl) (fun _ _ _ h => h) (Or.inl ⟨by rfl, ?_⟩) (by assumption) ?_
        rotate_left 1
        · intro w hSw
          (try dsimp only at hSw)
          go_simp
          try with_reducible rfl
        (try simp only [Act.put, List.setIfInBounds_toArray, List.set_cons_zero, List.set_cons_succ])
        refine wpAnyH_take (i := 4) (oi := { dst := some 43, op := Op.indexAddr 47 (Operand.tmp 42) (Operand.const (Value.int IntKind.i64 1)), type := 0, pos := "kindredref6.go:230", after := #[{ on := 3, ground := Ground.data }], guard := none }) (v := ?_) rfl (by kernel_rfl) (by kernel_rfl) (by kernel_rfl) (fun _ _ _ h => h) (Or.inl ⟨by rfl, ?_⟩) (by assumption) ?_
        rotate_left 1
        · intro w hSw
          (try dsimp only at hSw)
          go_simp
          try with_reducible rfl
        (try simp only [Act.put, List.setIfInBounds_toArray, List.set_cons_zero, List.set_cons_succ])
        refine wpAnyH_take (i := 5) (oi := { dst := some 44, op := Op.load 3 (Operand.tmp 43), type := 3, pos := "kindredref6.go:230", after := #[{ on := 4, ground := Ground.data }], guard := none }) (v := ?_) rfl (by kernel_rfl) (by kernel_rfl) (by kernel_rfl) (fun _ _ _ h => h) (Or.inl ⟨by rfl, ?_⟩) (by assumption) ?_
        rotate_left 1
        · intro w hSw
          (try dsimp only at hSw)
          go_simp
          try with_reducible rfl
        (try simp only [Act.put, List.setIfInBounds_toArray, List.set_cons_zero, List.set_cons_succ])
        refine wpAnyH_take (i := 6) (oi := { dst := some 45, op := Op.move (Operand.tmp 5), type := 47, pos := "kindredref6.go:230", after := #[], guard := none }) (v := ?_) rfl (by kernel_rfl) (by kernel_rfl) (by kernel_rfl) (fun _ _ _ h => h) (Or.inl ⟨by rfl, ?_⟩) (by assumption) ?_
        rotate_left 1
        · intro w hSw
          (try dsimp only at hSw)
          go_simp
          try with_reducible rfl
        (try simp only [Act.put, List.setIfInBounds_toArray, List.set_cons_zero, List.set_cons_succ])
        refine wpAnyH_take (i := 7) (oi := { dst := some 46, op := Op.indexAddr 47 (Operand.tmp 45) (Operand.const (Value.int IntKind.i64 2)), type := 0, pos := "kindredref6.go:230", after := #[{ on := 6, ground := Ground.data }], guard := none }) (v := ?_) rfl (by kernel_rfl) (by kernel_rfl) (by kernel_rfl) (fun _ _ _ h => h) (Or.inl ⟨by rfl, ?_⟩) (by assumption) ?_
        rotate_left 1
        · intro w hSw
          (try dsimp only at hSw)
          go_simp
          try with_reducible rfl
        (try simp only [Act.put, List.setIfInBounds_toArray, List.set_cons_zero, List.set_cons_succ])
        refine wpAnyH_take (i := 8) (oi := { dst := some 47, op := Op.load 3 (Operand.tmp 46), type := 3, pos := "kindredref6.go:230", after := #[{ on := 7, ground := Ground.data }], guard := none }) (v := ?_) rfl (by kernel_rfl) (by kernel_rfl) (by kernel_rfl) (fun _ _ _ h => h) (Or.inl ⟨by rfl, ?_⟩) (by assumption) ?_
        rotate_left 1
        · intro w hSw
          (try dsimp only at hSw)
          go_simp
          try with_reducible rfl
        (try simp only [Act.put, List.setIfInBounds_toArray, List.set_cons_zero, List.set_cons_succ])
        refine wpAnyH_take (i := 9) (oi := { dst := some 48, op := Op.move (Operand.tmp 5), type := 47, pos := "kindredref6.go:230", after := #[], guard := none }) (v := ?_) rfl (by kernel_rfl) (by kernel_rfl) (by kernel_rfl) (fun _ _ _ h => h) (Or.inl ⟨by rfl, ?_⟩) (by assumption) ?_
        rotate_left 1
        · intro w hSw
          (try dsimp only at hSw)
          go_simp
          try with_reducible rfl
        (try simp only [Act.put, List.setIfInBounds_toArray, List.set_cons_zero, List.set_cons_succ])
        refine wpAnyH_take (i := 10) (oi := { dst := some 49, op := Op.indexAddr 47 (Operand.tmp 48) (Operand.const (Value.int IntKind.i64 3)), type := 0, pos := "kindredref6.go:230", after := #[{ on := 9, ground := Ground.data }], guard := none }) (v := ?_) rfl (by kernel_rfl) (by kernel_rfl) (by kernel_rfl) (fun _ _ _ h => h) (Or.inl ⟨by rfl, ?_⟩) (by assumption) ?_
        rotate_left 1
        · intro w hSw
          (try dsimp only at hSw)
          go_simp
          try with_reducible rfl
        (try simp only [Act.put, List.setIfInBounds_toArray, List.set_cons_zero, List.set_cons_succ])
        refine wpAnyH_take (i := 11) (oi := { dst := some 50, op := Op.load 3 (Operand.tmp 49), type := 3, pos := "kindredref6.go:230", after := #[{ on := 10, ground := Ground.data }], guard := none }) (v := ?_) rfl (by kernel_rfl) (by kernel_rfl) (by kernel_rfl) (fun _ _ _ h => h) (Or.inl ⟨by rfl, ?_⟩) (by assumption) ?_
        rotate_left 1
        · intro w hSw
          (try dsimp only at hSw)
          go_simp
          try with_reducible rfl
        (try simp only [Act.put, List.setIfInBounds_toArray, List.set_cons_zero, List.set_cons_succ])
        refine wpAnyH_take (i := 12) (oi := { dst := some 51, op := Op.move (Operand.tmp 5), type := 47, pos := "kindredref6.go:230", after := #[], guard := none }) (v := ?_) rfl (by kernel_rfl) (by kernel_rfl) (by kernel_rfl) (fun _ _ _ h => h) (Or.inl ⟨by rfl, ?_⟩) (by assumption) ?_
        rotate_left 1
        · intro w hSw
          (try dsimp only at hSw)
          go_simp
          try with_reducible rfl
        (try simp only [Act.put, List.setIfInBounds_toArray, List.set_cons_zero, List.set_cons_succ])
        refine wpAnyH_take (i := 13) (oi := { dst := some 52, op := Op.indexAddr 47 (Operand.tmp 51) (Operand.const (Value.int IntKind.i64 4)), type := 0, pos := "kindredref6.go:230", after := #[{ on := 12, ground := Ground.data }], guard := none }) (v := ?_) rfl (by kernel_rfl) (by kernel_rfl) (by kernel_rfl) (fun _ _ _ h => h) (Or.inl ⟨by rfl, ?_⟩) (by assumption) ?_
        rotate_left 1
        · intro w hSw
          (try dsimp only at hSw)
          go_simp
          try with_reducible rfl
        (try simp only [Act.put, List.setIfInBounds_toArray, List.set_cons_zero, List.set_cons_succ])
        refine wpAnyH_take (i := 14) (oi := { dst := some 53, op := Op.load 3 (Operand.tmp 52), type := 3, pos := "kindredref6.go:230", after := #[{ on := 13, ground := Ground.data }], guard := none }) (v := ?_) rfl (by kernel_rfl) (by kernel_rfl) (by kernel_rfl) (fun _ _ _ h => h) (Or.inl ⟨by rfl, ?_⟩) (by assumption) ?_
        rotate_left 1
        · intro w hSw
          (try dsimp only at hSw)
          go_simp
          try with_reducible rfl
        (try simp only [Act.put, List.setIfInBounds_toArray, List.set_cons_zero, List.set_cons_succ])
        refine wpAnyH_take (i := 15) (oi := { dst := some 54, op := Op.move (Operand.tmp 5), type := 47, pos := "kindredref6.go:230", after := #[], guard := none }) (v := ?_) rfl (by kernel_rfl) (by kernel_rfl) (by kernel_rfl) (fun _ _ _ h => h) (Or.inl ⟨by rfl, ?_⟩) (by assumption) ?_
        rotate_left 1
        · intro w hSw
          (try dsimp only at hSw)
          go_simp
          try with_reducible rfl
        (try simp only [Act.put, List.setIfInBounds_toArray, List.set_cons_zero, List.set_cons_succ])
        refine wpAnyH_take (i := 16) (oi := { dst := some 55, op := Op.indexAddr 47 (Operand.tmp 54) (Operand.const (Value.int IntKind.i64 5)), type := 0, pos := "kindredref6.go:230", after := #[{ on := 15, ground := Ground.data }], guard := none }) (v := ?_) rfl (by kernel_rfl) (by kernel_rfl) (by kernel_rfl) (fun _ _ _ h => h) (Or.inl ⟨by rfl, ?_⟩) (by assumption) ?_
        rotate_left 1
        · intro w hSw
          (try dsimp only at hSw)
          go_simp
          try with_reducible rfl
        (try simp only [Act.put, List.setIfInBounds_toArray, List.set_cons_zero, List.set_cons_succ])
        refine wpAnyH_take (i := 17) (oi := { dst := some 56, op := Op.load 3 (Operand.tmp 55), type := 3, pos := "kindredref6.go:230", after := #[{ on := 16, ground := Ground.data }], guard := none }) (v := ?_) rfl (by kernel_rfl) (by kernel_rfl) (by kernel_rfl) (fun _ _ _ h => h) (Or.inl ⟨by rfl, ?_⟩) (by assumption) ?_
        rotate_left 1
        · intro w hSw
          (try dsimp only at hSw)
          go_simp
          try with_reducible rfl
        (try simp only [Act.put, List.setIfInBounds_toArray, List.set_cons_zero, List.set_cons_succ])
        refine wpAnyH_take (i := 18) (oi := { dst := some 57, op := Op.build 23 #[(0, Operand.tmp 41), (1, Operand.tmp 44), (2, Operand.tmp 47), (3, Operand.tmp 50), (4, Operand.tmp 53), (5, Operand.tmp 56)], type := 23, pos := "kindredref6.go:230", after := #[{ on := 2, ground := Ground.data }, { on := 5, ground := Ground.data }, { on := 8, ground := Ground.data }, { on := 11, ground := Ground.data }, { on := 14, ground := Ground.data }, { on := 17, ground := Ground.data }], guard := none }) (v := ?_) rfl (by kernel_rfl) (by kernel_rfl) (by kernel_rfl) (fun _ _ _ h => h) (Or.inl ⟨by rfl, ?_⟩) (by assumption) ?_
        rotate_left 1
        · intro w hSw
          (try dsimp only at hSw)
          go_simp
          try with_reducible rfl
        (try simp only [Act.put, List.setIfInBounds_toArray, List.set_cons_zero, List.set_cons_succ])
        refine wpAnyH_ready (rs := [19]) (by kernel_rfl) (by simp) ?_
        refine AllReadyH.cons (o := { dst := some 8, op := Op.alloc 23, type := 0, pos := "kindredref6.go:230", after := #[], guard := none }) rfl (fun K hK => ?_) ?_
        rotate_left 1
        · exact AllReadyH.nil
        go_simp
        refine hK.out _ _ ?_ (fun hHeld19 => ?_)
        · refine ⟨(World.cell?_of_block (a := ⟨g, 0, none⟩) ?_).trans c0, (World.cell?_of_block (a := ⟨g, 1, none⟩) ?_).trans c1, (World.cell?_of_block (a := ⟨g, 2, none⟩) ?_).trans c2, (World.cell?_of_block (a := ⟨g, 3, none⟩) ?_).trans c3, (World.cell?_of_block (a := ⟨g, 4, none⟩) ?_).trans c4, (World.cell?_of_block (a := ⟨g, 5, none⟩) ?_).trans c5⟩ <;> (rw [heap_drewX]; exact Below.heap_alloc _ _ _ hg2)
        clear hK K
        (try simp only [Act.put, List.setIfInBounds_toArray, List.set_cons_zero, List.set_cons_succ])
        refine wpAnyH_ready (rs := [20]) (by kernel_rfl) (by simp) ?_
        refine AllReadyH.cons (o := { dst := none, op := Op.store 23 (Operand.tmp 8) (Operand.tmp 57), type := 0, pos := "kindredref6.go:230", after := #[{ on := 19, ground := Ground.data }, { on := 18, ground := Ground.data }, { on := 0, ground := Ground.phase }, { on := 1, ground := Ground.phase }, { on := 2, ground := Ground.phase }, { on := 3, ground := Ground.phase }, { on := 4, ground := Ground.phase }, { on := 5, ground := Ground.phase }, { on := 6, ground := Ground.phase }, { on := 7, ground := Ground.phase }, { on := 8, ground := Ground.phase }, { on := 9, ground := Ground.phase }, { on := 10, ground := Ground.phase }, { on := 11, ground := Ground.phase }, { on := 12, ground := Ground.phase }, { on := 13, ground := Ground.phase }, { on := 14, ground := Ground.phase }, { on := 15, ground := Ground.phase }, { on := 16, ground := Ground.phase }, { on := 17, ground := Ground.phase }, { on := 18, ground := Ground.phase }, { on := 19, ground := Ground.phase }], guard := none }) rfl (fun K hK => ?_) ?_
        rotate_left 1
        · exact AllReadyH.nil
        go_simp
        refine hK.out _ _ ?_ (fun hHeld20 => ?_)
        · refine ⟨(World.cell?_of_block (a := ⟨g, 0, none⟩) ?_).trans c0, (World.cell?_of_block (a := ⟨g, 1, none⟩) ?_).trans c1, (World.cell?_of_block (a := ⟨g, 2, none⟩) ?_).trans c2, (World.cell?_of_block (a := ⟨g, 3, none⟩) ?_).trans c3, (World.cell?_of_block (a := ⟨g, 4, none⟩) ?_).trans c4, (World.cell?_of_block (a := ⟨g, 5, none⟩) ?_).trans c5⟩ <;> (rw [heap_drewX]; exact Below.heap_alloc _ _ _ hg2)
        clear hK K
        (try simp only [Act.put, List.setIfInBounds_toArray, List.set_cons_zero, List.set_cons_succ])
        refine wpAnyH_done (by kernel_rfl) ?_ _
        have HW3 := Lib.hid (World.alloc_heap_new w2 (.cells #[.int .i64 n0, .int .i64 n1, .int .i64 n2, .int .i64 n3, .int .i64 n4, .int .i64 n5] 23))
        have HB3 := Lib.hid ((HB2.out.alloc HB2.out.size (.cells #[.int .i64 n0, .int .i64 n1, .int .i64 n2, .int .i64 n3, .int .i64 n4, .int .i64 n5] 23)).drew)
        have HZ3 := Lib.hid ((Below.heap_alloc w2 (.cells #[.int .i64 n0, .int .i64 n1, .int .i64 n2, .int .i64 n3, .int .i64 n4, .int .i64 n5] 23) w.heap.size hws).trans HZX.out)
        clear hHeld hHeld19 hHeld20
        go_wp2_with fail
        refine (RefWidth_calls (n0 : Int) _).mono ?_
        rintro e w4 ⟨rfl, hw4⟩
        subst hw4
        cases hwd : widthB (n0 : Int) with
        | false =>
          have hN : readR (x :: fr) = none := by
            unfold readR
            simp only
            rw [if_neg (by rw [hkd]; simp), ← hpl2, HNum.out]
            simp only
            rw [if_neg (by rw [show (hdOf [n0, n1, n2, n3, n4, n5]).w = (n0 : Int) from rfl, hwd]; simp)]
          have HE := Lib.hid (fun W hW => HN0.out W hN hW)
          have hz3 := HZ3.out
          unfold zero6 at hz3
          obtain ⟨d0, k0⟩ := arr_cell hz3 (k := 0) rfl
          obtain ⟨d1, k1⟩ := arr_cell hz3 (k := 1) rfl
          obtain ⟨d2, k2⟩ := arr_cell hz3 (k := 2) rfl
          obtain ⟨d3, k3⟩ := arr_cell hz3 (k := 3) rfl
          obtain ⟨d4, k4⟩ := arr_cell hz3 (k := 4) rfl
          obtain ⟨d5, k5⟩ := arr_cell hz3 (k := 5) rfl
          clear hN hz3
          go_wp2
          refine bodyPost_ret (v := .tuple #[.agg #[.int .i64 0, .int .i64 0, .int .i64 0, .int .i64 0, .int .i64 0, .int .i64 0], .slice none 0 0, .bool false]) ?_ rfl (HE.out _ ((below_six HB2.out (Nat.le_refl _) _ _ _ _ _ _).alloc (below_six HB2.out (Nat.le_refl _) _ _ _ _ _ _).size _).drew)
          rw [results_cell_tmp2B rfl]
          go_simp
        | true =>
          obtain ⟨m, hm, hm2, hm3, hm4⟩ := widthB_true hwd
          obtain rfl : n0 = m := by omega
          obtain ⟨cb, hcb⟩ : ∃ cb, n0 / 8 = cb := ⟨_, rfl⟩
          have hcb2 : cb ≤ 128 := by omega
          have hcq : (n0 : Int) / 8 = (cb : Int) := by omega
          obtain ⟨R, hR⟩ : ∃ R, readFs cb fr [] = R := ⟨_, rfl⟩
          have HRd : Hid (readR (x :: fr) = R.map (fun l => ((⟨n0, n1, n2, n3, n4, n5⟩ : Hd), l))) := Lib.hid (by
            unfold readR
            simp only
            rw [if_neg (by rw [hkd]; simp), ← hpl2, HNum.out]
            simp only
            rw [if_pos (by rw [show (hdOf [n0, n1, n2, n3, n4, n5]).w = (n0 : Int) from rfl, hwd]), show [n0, n1, n2, n3, n4, n5].getD 0 0 = n0 from rfl, hcb, hR]
            cases R <;> rfl)
          obtain ⟨HB, hHB⟩ : ∃ q, w2.heap.size = q := ⟨_, rfl⟩
          have H0 : Hid (RdRel w HB ⟨n0, n1, n2, n3, n4, n5⟩ (.slice (some ⟨fg, 0, none⟩) nf fc) (x :: fr) cb R 1 (.slice none 0 0) ((w2.alloc (.cells #[.int .i64 n0, .int .i64 n1, .int .i64 n2, .int .i64 n3, .int .i64 n4, .int .i64 n5] 23)).drew)) := Lib.hid ⟨[], Nat.le_refl _, by rw [hnf]; exact hnf1, hR, by simp, fun e he => by simp at he, HZ3.out, by rw [← hHB]; exact HW3.out, World.ownsRow_nil _ _ _ _, HB3.out⟩
          have HHB : Hid (w.heap.size < HB) := Lib.hid (by rw [← hHB]; exact hws)
          obtain ⟨L, hL⟩ : ∃ L, x :: fr = L := ⟨_, rfl⟩
          rw [hL] at hnf HO HRd H0 hE HN0
          clear HNum hR HZ3 HW3 HB3 hkd hpl hpl2 HB2 HZX hbu d0 k0 d1 k1 d2 k2 d3 k3 d4 k4 d5 k5 c0 c1 c2 c3 c4 c5
          go_wp2
          rw [hHB] at *
          go_loopw [10, 11] (fun lv iv wr => ∃ k : Nat, iv = .int .i64 k ∧ RdRel w HB ⟨n0, n1, n2, n3, n4, n5⟩ (.slice (some ⟨fg, 0, none⟩) nf fc) L cb R k lv wr) (fun _ iv _ => nf - (intOf iv).toNat)
          case atStart => exact ⟨1, rfl, H0.out⟩
          case round =>
            obtain ⟨k, rfl, acc, hk1, hk, hrk, hal, hcod, hzr, hhr, hown, hbl⟩ := hrel
            rw [hnf] at hk
            obtain ⟨lp, lc, rfl, _⟩ := own_rd hown
            have hfo := own_belowAll HO.out hbl
            have HRk := Lib.hid hrk
            have hhr2 := hhr
            have hzr2 := hzr
            unfold zero6 at hzr2
            obtain ⟨d0, k0⟩ := arr_cell hzr2 (k := 0) rfl
            obtain ⟨d1, k1⟩ := arr_cell hzr2 (k := 1) rfl
            obtain ⟨d2, k2⟩ := arr_cell hzr2 (k := 2) rfl
            obtain ⟨d3, k3⟩ := arr_cell hzr2 (k := 3) rfl
            obtain ⟨d4, k4⟩ := arr_cell hzr2 (k := 4) rfl
            obtain ⟨d5, k5⟩ := arr_cell hzr2 (k := 5) rfl
            obtain ⟨e0, e1, e2, e3, e4, e5⟩ := cells6 hhr2
            have hnHB : ¬ (w.heap.size = HB) := by have := HHB.out; omega
            by_cases hlt : k < nf
            · obtain ⟨y, hy, f0, f1, f2⟩ := encF_get L k (by rw [hnf]; exact hlt)
              obtain ⟨y', hy'⟩ : ∃ y, L[k]? = some y := ⟨_, List.getElem?_eq_getElem (by rw [hnf]; exact hlt)⟩
              have hdr : L.drop k = y :: L.drop (k + 1) := by
                rw [List.drop_eq_getElem_cons (by rw [hnf]; exact hlt), (List.getElem?_eq_some_iff.1 hy).2]
              rw [hdr, readFs] at hrk
              have hyl := hE y (List.mem_of_getElem? hy)
              obtain ⟨kd, pd, ps⟩ := y
              simp only at f0 f1 f2 hyl
              obtain ⟨S, hS⟩ : ∃ S : ByteArray, (⟨pd.toArray⟩ : ByteArray) = S := ⟨_, rfl⟩
              have hS2 : S.data.toList = pd := by rw [← hS]
              have hSs : S.size = pd.length := by rw [← hS2]; rfl
              rw [hS] at f1
              have g0 : wr.cell? ⟨fg, k * 3, none⟩ = some (.int .i64 kd) := by rw [hfo.cellAt _ (by omega)]; exact f0
              have g1 : wr.cell? ⟨fg, k * 3 + 1, none⟩ = some (.string S) := by rw [hfo.cellAt _ (by omega)]; exact f1
              have i0' : (0 : Int) ≤ (k : Int) := by omega
              have i1' : (k : Int) < (nf : Int) := by omega
              by_cases hk5 : kd = 5
              · subst hk5
                simp only [if_true] at hrk
                obtain ⟨RB, hRB⟩ : ∃ RB, readB cb pd (pd.length + 1) 0 acc = RB := ⟨_, rfl⟩
                rw [hRB] at hrk
                have HRK2 := Lib.hid hrk
                have H1 : Hid (RdiRel w HB ⟨n0, n1, n2, n3, n4, n5⟩ cb pd k RB 0 (.slice lp acc.length lc) wr) := Lib.hid ⟨acc, pd.length + 1, Nat.zero_le _, by omega, hRB, by omega, hcod, hzr, hhr, hown, hbl⟩
                have HF1 := Lib.hid f1
                clear hrk hRB hown hzr hhr hbl hzr2 hhr2 hfo f0 f1 f2 hdr hy hy' HRk hal hcod d0 k0 d1 k1 d2 k2 d3 k3 d4 k4 d5 k5 e0 e1 e2 e3 e4 e5
                go_wp2
                rename World => wo
                go_loopw [10, 12] (fun lv av wr => ∃ a : Nat, av = .int .i64 a ∧ RdiRel w HB ⟨n0, n1, n2, n3, n4, n5⟩ cb pd k RB a lv wr) (fun _ av _ => pd.length - (intOf av).toNat)
                case atStart => exact ⟨0, rfl, H1.out⟩
                case round =>
                  obtain ⟨a, rfl, acc, f, ha, hf, hrb, hal, hcod, hzr, hhr, hown, hbl⟩ := hrel
                  obtain ⟨lp, lc, rfl, _⟩ := own_rd hown
                  have hfo := own_belowAll HO.out hbl
                  have g1 : wr.cell? ⟨fg, k * 3 + 1, none⟩ = some (.string S) := by rw [hfo.cellAt _ (by omega)]; exact HF1.out
                  obtain ⟨e0, e1, e2, e3, e4, e5⟩ := cells6 hhr
                  have HBL := Lib.hid hbl
                  have HHR := Lib.hid hhr
                  have HZR := Lib.hid hzr
                  have HOW := Lib.hid hown
                  have hhl := (Array.getElem?_eq_some_iff.1 hhr).1
                  have hzl := (Array.getElem?_eq_some_iff.1 hzr).1
                  have hfgl : fg < wr.heap.size := Nat.lt_of_lt_of_le hfg hbl.size
                  by_cases hla : a < pd.length
                  · obtain ⟨f, rfl⟩ : ∃ d, f = d + 1 := ⟨f - 1, by omega⟩
                    rw [readB, if_pos hla] at hrb
                    have hla2 : (a : Int) < (S.size : Int) := by omega
                    have CE := fun W => entry_calls S (by omega) a cb (by omega) hcb2 W
                    rw [hS2] at CE
                    have hwcb : IntKind.i64.wrap (cb : Int) = (cb : Int) := by rw [IntKind.wrap_i64]; omega
                    have HSK : Hid (∀ W, Below wr.heap.size wr W → W.cell? ⟨fg, k * 3 + 1, none⟩ = some (.string S) ∧ W.cell? ⟨HB, 0, none⟩ = some (.int .i64 n0)) := Lib.hid (fun W hW => ⟨(World.cell?_of_block (a := ⟨fg, k * 3 + 1, none⟩) (hW.block _ hfgl)).trans g1, (World.cell?_of_block (a := ⟨HB, 0, none⟩) (hW.block _ hhl)).trans e0⟩)
                    cases hent : entR pd a cb with
                    | none =>
                      rw [hent] at hrb
                      have HCE : Hid (∀ W, Calls Tryd.prog 74 #[.string S, .int .i64 (a : Int), .int .i64 (cb : Int)] W fun e w' => e = .returned (.tuple #[.agg #[.int .i64 0, .string ⟨#[]⟩, .int .i64 0, .int .i64 0, .bool false], .int .i64 0, .bool false]) ∧ Below W.heap.size W w') := Lib.hid (fun W => (CE W).mono (by
                        rintro e w' ⟨hb, ⟨x, nx, h1, _⟩ | ⟨_, rfl⟩⟩
                        · rw [hent] at h1; cases h1
                        · exact ⟨rfl, hb⟩))
                      have hRn : R = none := by
                        have h2 := HRK2.out
                        rw [← hrb] at h2
                        exact h2.symm
                      have hN : readR L = none := by rw [HRd.out, hRn]; rfl
                      have HE := Lib.hid (fun W hW => HN0.out W hN hW)
                      clear hfo hzr hhr hown hbl hRn hN CE hrb
                      go_wp2
                      refine wp_region_held_drew (S := (fun W => W.cell? ⟨fg, k * 3 + 1, none⟩ = some (.string S) ∧ W.cell? ⟨HB, 0, none⟩ = some (.int .i64 n0))) (by kernel_rfl) ?_ (fun hHeld => ?_)
                      · exact HSK.out _ (Below.refl _ wr).drew
                      refine wpAnyH_take (i := 0) (oi := { dst := some 87, op := Op.move (Operand.tmp 0), type := 79, pos := "kindredref6.go:239", after := #[], guard := none }) (v := ?_) rfl (by kernel_rfl) (by kernel_rfl) (by kernel_rfl) (fun _ _ _ h => h) (Or.inl ⟨by rfl, ?_⟩) (by assumption) ?_
                      rotate_left 1
                      · intro w hSw
                        (try dsimp only at hSw)
                        go_simp
                        try with_reducible rfl
                      (try simp only [Act.put, List.setIfInBounds_toArray, List.set_cons_zero, List.set_cons_succ])
                      refine wpAnyH_take (i := 1) (oi := { dst := some 88, op := Op.move (Operand.tmp 11), type := 3, pos := "kindredref6.go:239", after := #[], guard := none }) (v := ?_) rfl (by kernel_rfl) (by kernel_rfl) (by kernel_rfl) (fun _ _ _ h => h) (Or.inl ⟨by rfl, ?_⟩) (by assumption) ?_
                      rotate_left 1
                      · intro w hSw
                        (try dsimp only at hSw)
                        go_simp
                        try with_reducible rfl
                      (try simp only [Act.put, List.setIfInBounds_toArray, List.set_cons_zero, List.set_cons_succ])
                      refine wpAnyH_take (i := 2) (oi := { dst := some 89, op := Op.indexAddr 79 (Operand.tmp 87) (Operand.tmp 88), type := 0, pos := "kindredref6.go:239", after := #[{ on := 0, ground := Ground.data }, { on := 1, ground := Ground.data }], guard := none }) (v := ?_) rfl (by kernel_rfl) (by kernel_rfl) (by kernel_rfl) (fun _ _ _ h => h) (Or.inl ⟨by rfl, ?_⟩) (by assumption) ?_
                      rotate_left 1
                      · intro w hSw
                        (try dsimp only at hSw)
                        go_simp
                        try with_reducible rfl
                      (try simp only [Act.put, List.setIfInBounds_toArray, List.set_cons_zero, List.set_cons_succ])
                      refine wpAnyH_take (i := 3) (oi := { dst := some 90, op := Op.fieldAddr 83 (Operand.tmp 89) 1, type := 0, pos := "kindredref6.go:239", after := #[{ on := 2, ground := Ground.data }], guard := none }) (v := ?_) rfl (by kernel_rfl) (by kernel_rfl) (by kernel_rfl) (fun _ _ _ h => h) (Or.inl ⟨by rfl, ?_⟩) (by assumption) ?_
                      rotate_left 1
                      · intro w hSw
                        (try dsimp only at hSw)
                        go_simp
                        try with_reducible rfl
                      (try simp only [Act.put, List.setIfInBounds_toArray, List.set_cons_zero, List.set_cons_succ])
                      refine wpAnyH_take (i := 4) (oi := { dst := some 91, op := Op.load 9 (Operand.tmp 90), type := 9, pos := "kindredref6.go:239", after := #[{ on := 3, ground := Ground.data }], guard := none }) (v := ?_) rfl (by kernel_rfl) (by kernel_rfl) (by kernel_rfl) (fun _ _ _ h => h) (Or.inl ⟨by rfl, ?_⟩) (by assumption) ?_
                      rotate_left 1
                      · intro w hSw
                        (try dsimp only at hSw)
                        go_simp
                        try with_reducible rfl
                      (try simp only [Act.put, List.setIfInBounds_toArray, List.set_cons_zero, List.set_cons_succ])
                      refine wpAnyH_take (i := 5) (oi := { dst := some 92, op := Op.move (Operand.tmp 12), type := 3, pos := "kindredref6.go:239", after := #[], guard := none }) (v := ?_) rfl (by kernel_rfl) (by kernel_rfl) (by kernel_rfl) (fun _ _ _ h => h) (Or.inl ⟨by rfl, ?_⟩) (by assumption) ?_
                      rotate_left 1
                      · intro w hSw
                        (try dsimp only at hSw)
                        go_simp
                        try with_reducible rfl
                      (try simp only [Act.put, List.setIfInBounds_toArray, List.set_cons_zero, List.set_cons_succ])
                      refine wpAnyH_take (i := 6) (oi := { dst := some 93, op := Op.fieldAddr 23 (Operand.tmp 8) 0, type := 0, pos := "kindredref6.go:239", after := #[], guard := none }) (v := ?_) rfl (by kernel_rfl) (by kernel_rfl) (by kernel_rfl) (fun _ _ _ h => h) (Or.inl ⟨by rfl, ?_⟩) (by assumption) ?_
                      rotate_left 1
                      · intro w hSw
                        (try dsimp only at hSw)
                        go_simp
                        try with_reducible rfl
                      (try simp only [Act.put, List.setIfInBounds_toArray, List.set_cons_zero, List.set_cons_succ])
                      refine wpAnyH_take (i := 7) (oi := { dst := some 94, op := Op.load 3 (Operand.tmp 93), type := 3, pos := "kindredref6.go:239", after := #[{ on := 6, ground := Ground.data }], guard := none }) (v := ?_) rfl (by kernel_rfl) (by kernel_rfl) (by kernel_rfl) (fun _ _ _ h => h) (Or.inl ⟨by rfl, ?_⟩) (by assumption) ?_
                      rotate_left 1
                      · intro w hSw
                        (try dsimp only at hSw)
                        go_simp
                        try with_reducible rfl
                      (try simp only [Act.put, List.setIfInBounds_toArray, List.set_cons_zero, List.set_cons_succ])
                      refine wpAnyH_take (i := 8) (oi := { dst := some 95, op := Op.binOp BinOp.quo 3 (Operand.tmp 94) (Operand.const (Value.int IntKind.i64 8)) 3, type := 3, pos := "kindredref6.go:239", after := #[{ on := 7, ground := Ground.data }], guard := none }) (v := ?_) rfl (by kernel_rfl) (by kernel_rfl) (by kernel_rfl) (fun _ _ _ h => h) (Or.inl ⟨by rfl, ?_⟩) (by assumption) ?_
                      rotate_left 1
                      · intro w hSw
                        (try dsimp only at hSw)
                        go_simp
                        try with_reducible rfl
                      (try simp only [Act.put, List.setIfInBounds_toArray, List.set_cons_zero, List.set_cons_succ])
                      refine wpAnyH_ready (rs := [9, 14]) (by kernel_rfl) (by simp) ?_
                      refine AllReadyH.cons (o := { dst := some 96, op := Op.call { callee := Callee.value (Operand.func 74), args := #[Operand.tmp 91, Operand.tmp 92, Operand.tmp 95], argTypes := #[9, 3, 3] }, type := 131, pos := "kindredref6.go:239", after := #[{ on := 4, ground := Ground.data }, { on := 5, ground := Ground.data }, { on := 8, ground := Ground.data }], guard := none }) rfl (fun K hK => ?_) (AllReadyH.cons (o := { dst := some 13, op := Op.alloc 33, type := 0, pos := "kindredref6.go:239", after := #[], guard := none }) rfl (fun K hK => ?_) AllReadyH.nil)
                      · go_simp
                        go_at_call 74; refine (HCE.out wr.drew).mono ?_; rintro e w5 ⟨rfl, hb5⟩; have hB5 : Below wr.heap.size wr w5 := (below_of hb5)
                        refine hK.out _ _ ?_ (fun hHeld9 => ?_)
                        · exact HSK.out _ hB5
                        clear hK K
                        (try simp only [Act.put, List.setIfInBounds_toArray, List.set_cons_zero, List.set_cons_succ])
                        refine wpAnyH_take (i := 10) (oi := { dst := some 86, op := Op.move (Operand.tmp 96), type := 131, pos := "kindredref6.go:239", after := #[{ on := 9, ground := Ground.data }], guard := none }) (v := ?_) rfl (by kernel_rfl) (by kernel_rfl) (by kernel_rfl) (fun _ _ _ h => h) (Or.inl ⟨by rfl, ?_⟩) (by assumption) ?_
                        rotate_left 1
                        · intro w hSw
                          (try dsimp only at hSw)
                          go_simp
                          try with_reducible rfl
                        (try simp only [Act.put, List.setIfInBounds_toArray, List.set_cons_zero, List.set_cons_succ])
                        refine wpAnyH_take (i := 11) (oi := { dst := some 97, op := Op.extract (Operand.tmp 86) 0, type := 33, pos := "kindredref6.go:239", after := #[{ on := 10, ground := Ground.data }], guard := none }) (v := ?_) rfl (by kernel_rfl) (by kernel_rfl) (by kernel_rfl) (fun _ _ _ h => h) (Or.inl ⟨by rfl, ?_⟩) (by assumption) ?_
                        rotate_left 1
                        · intro w hSw
                          (try dsimp only at hSw)
                          go_simp
                          try with_reducible rfl
                        (try simp only [Act.put, List.setIfInBounds_toArray, List.set_cons_zero, List.set_cons_succ])
                        refine wpAnyH_take (i := 12) (oi := { dst := some 98, op := Op.extract (Operand.tmp 86) 1, type := 3, pos := "kindredref6.go:239", after := #[{ on := 10, ground := Ground.data }, { on := 15, ground := Ground.gcOnly Departure.lateStores }], guard := none }) (v := ?_) rfl (by kernel_rfl) (by kernel_rfl) (by kernel_rfl) (fun _ _ _ h => h) (Or.inl ⟨by rfl, ?_⟩) (by assumption) ?_
                        rotate_left 1
                        · intro w hSw
                          (try dsimp only at hSw)
                          go_simp
                          try with_reducible rfl
                        (try simp only [Act.put, List.setIfInBounds_toArray, List.set_cons_zero, List.set_cons_succ])
                        refine wpAnyH_take (i := 13) (oi := { dst := some 99, op := Op.extract (Operand.tmp 86) 2, type := 4, pos := "kindredref6.go:239", after := #[{ on := 10, ground := Ground.data }, { on := 16, ground := Ground.gcOnly Departure.lateStores }], guard := none }) (v := ?_) rfl (by kernel_rfl) (by kernel_rfl) (by kernel_rfl) (fun _ _ _ h => h) (Or.inl ⟨by rfl, ?_⟩) (by assumption) ?_
                        rotate_left 1
                        · intro w hSw
                          (try dsimp only at hSw)
                          go_simp
                          try with_reducible rfl
                        (try simp only [Act.put, List.setIfInBounds_toArray, List.set_cons_zero, List.set_cons_succ])
                        refine wpAnyH_ready (rs := [14]) (by kernel_rfl) (by simp) ?_
                        refine AllReadyH.cons (o := { dst := some 13, op := Op.alloc 33, type := 0, pos := "kindredref6.go:239", after := #[], guard := none }) rfl (fun K hK => ?_) ?_
                        rotate_left 1
                        · exact AllReadyH.nil
                        go_simp
                        refine hK.out _ _ ?_ (fun hHeld14 => ?_)
                        · exact HSK.out _ (hB5.alloc hB5.size _)
                        clear hK K
                        (try simp only [Act.put, List.setIfInBounds_toArray, List.set_cons_zero, List.set_cons_succ])
                        refine wpAnyH_ready (rs := [15]) (by kernel_rfl) (by simp) ?_
                        refine AllReadyH.cons (o := { dst := none, op := Op.store 33 (Operand.tmp 13) (Operand.tmp 97), type := 0, pos := "kindredref6.go:239", after := #[{ on := 14, ground := Ground.data }, { on := 11, ground := Ground.data }, { on := 9, ground := Ground.chain }, { on := 0, ground := Ground.phase }, { on := 1, ground := Ground.phase }, { on := 2, ground := Ground.phase }, { on := 3, ground := Ground.phase }, { on := 4, ground := Ground.phase }, { on := 5, ground := Ground.phase }, { on := 6, ground := Ground.phase }, { on := 7, ground := Ground.phase }, { on := 8, ground := Ground.phase }, { on := 9, ground := Ground.phase }, { on := 10, ground := Ground.phase }, { on := 11, ground := Ground.phase }, { on := 12, ground := Ground.textOnly Departure.lateStores }, { on := 13, ground := Ground.textOnly Departure.lateStores }, { on := 14, ground := Ground.phase }], guard := none }) rfl (fun K hK => ?_) ?_
                        rotate_left 1
                        · exact AllReadyH.nil
                        go_simp
                        refine hK.out _ _ ?_ (fun hHeld15 => ?_)
                        · exact HSK.out _ (hB5.alloc hB5.size _)
                        clear hK K
                        (try simp only [Act.put, List.setIfInBounds_toArray, List.set_cons_zero, List.set_cons_succ])
                        refine wpAnyH_take (i := 16) (oi := { dst := some 14, op := Op.assign (Operand.tmp 98), type := 3, pos := "kindredref6.go:239", after := #[{ on := 12, ground := Ground.data }, { on := 15, ground := Ground.chain }, { on := 0, ground := Ground.phase }, { on := 1, ground := Ground.phase }, { on := 2, ground := Ground.phase }, { on := 3, ground := Ground.phase }, { on := 4, ground := Ground.phase }, { on := 5, ground := Ground.phase }, { on := 6, ground := Ground.phase }, { on := 7, ground := Ground.phase }, { on := 8, ground := Ground.phase }, { on := 9, ground := Ground.phase }, { on := 10, ground := Ground.phase }, { on := 11, ground := Ground.phase }, { on := 12, ground := Ground.phase }, { on := 13, ground := Ground.textOnly Departure.lateStores }, { on := 14, ground := Ground.phase }, { on := 15, ground := Ground.phase }], guard := none }) (v := ?_) rfl (by kernel_rfl) (by kernel_rfl) (by kernel_rfl) (fun _ _ _ h => h) (Or.inl ⟨by rfl, ?_⟩) (by assumption) ?_
                        rotate_left 1
                        · intro w hSw
                          (try dsimp only at hSw)
                          go_simp
                          try with_reducible rfl
                        (try simp only [Act.put, List.setIfInBounds_toArray, List.set_cons_zero, List.set_cons_succ])
                        refine wpAnyH_take (i := 17) (oi := { dst := some 15, op := Op.assign (Operand.tmp 99), type := 4, pos := "kindredref6.go:239", after := #[{ on := 13, ground := Ground.data }, { on := 16, ground := Ground.chain }, { on := 0, ground := Ground.phase }, { on := 1, ground := Ground.phase }, { on := 2, ground := Ground.phase }, { on := 3, ground := Ground.phase }, { on := 4, ground := Ground.phase }, { on := 5, ground := Ground.phase }, { on := 6, ground := Ground.phase }, { on := 7, ground := Ground.phase }, { on := 8, ground := Ground.phase }, { on := 9, ground := Ground.phase }, { on := 10, ground := Ground.phase }, { on := 11, ground := Ground.phase }, { on := 12, ground := Ground.phase }, { on := 13, ground := Ground.phase }, { on := 14, ground := Ground.phase }, { on := 15, ground := Ground.phase }, { on := 16, ground := Ground.phase }], guard := none }) (v := ?_) rfl (by kernel_rfl) (by kernel_rfl) (by kernel_rfl) (fun _ _ _ h => h) (Or.inl ⟨by rfl, ?_⟩) (by assumption) ?_
                        rotate_left 1
                        · intro w hSw
                          (try dsimp only at hSw)
                          go_simp
                          try with_reducible rfl
                        (try simp only [Act.put, List.setIfInBounds_toArray, List.set_cons_zero, List.set_cons_succ])
                        refine wpAnyH_done (by kernel_rfl) ?_ _
                        obtain ⟨WE, hWE⟩ : ∃ W, w5.alloc (.cells #[.int .i64 0, .string ⟨#[]⟩, .int .i64 0, .int .i64 0, .bool false] 33) = W := ⟨_, rfl⟩
                        have hbE : Below wr.heap.size wr WE := by rw [← hWE]; exact hB5.alloc hB5.size _
                        have hxE : WE.heap[w5.heap.size]? = some (.cells #[.int .i64 0, .string ⟨#[]⟩, .int .i64 0, .int .i64 0, .bool false] 33 (0, 0)) := by rw [← hWE]; exact World.alloc_heap_new _ _
                        rw [hWE]
                        clear hWE 
                        have hzE := (hbE.block _ hzl).trans HZR.out
                        unfold zero6 at hzE
                        obtain ⟨d0, k0⟩ := arr_cell hzE (k := 0) rfl
                        obtain ⟨d1, k1⟩ := arr_cell hzE (k := 1) rfl
                        obtain ⟨d2, k2⟩ := arr_cell hzE (k := 2) rfl
                        obtain ⟨d3, k3⟩ := arr_cell hzE (k := 3) rfl
                        obtain ⟨d4, k4⟩ := arr_cell hzE (k := 4) rfl
                        obtain ⟨d5, k5⟩ := arr_cell hzE (k := 5) rfl
                        have HBE := Lib.hid (HBL.out.trans (hbE.mono HBL.out.size))
                        clear hHeld hHeld9 hHeld14 hHeld15
                        clear hzE hbE hxE hb5 hB5
                        go_wp2
                        try rw [hL]
                        refine bodyPost_ret (v := .tuple #[.agg #[.int .i64 0, .int .i64 0, .int .i64 0, .int .i64 0, .int .i64 0, .int .i64 0], .slice none 0 0, .bool false]) ?_ rfl (HE.out _ (below_six HBE.out (Nat.le_refl _) _ _ _ _ _ _))
                        rw [results_cell_tmp2B rfl]
                        go_simp
                      · go_simp
                        refine hK.out _ _ ?_ (fun hHeld14 => ?_)
                        · exact HSK.out _ ((Below.refl _ wr).alloc (Nat.le_refl _) _).drew
                        clear hK K
                        (try simp only [Act.put, List.setIfInBounds_toArray, List.set_cons_zero, List.set_cons_succ])
                        refine wpAnyH_ready (rs := [9]) (by kernel_rfl) (by simp) ?_
                        refine AllReadyH.cons (o := { dst := some 96, op := Op.call { callee := Callee.value (Operand.func 74), args := #[Operand.tmp 91, Operand.tmp 92, Operand.tmp 95], argTypes := #[9, 3, 3] }, type := 131, pos := "kindredref6.go:239", after := #[{ on := 4, ground := Ground.data }, { on := 5, ground := Ground.data }, { on := 8, ground := Ground.data }], guard := none }) rfl (fun K hK => ?_) ?_
                        rotate_left 1
                        · exact AllReadyH.nil
                        go_simp
                        go_at_call 74; refine (HCE.out (wr.alloc (.cells #[.int .i64 0, .string ⟨#[]⟩, .int .i64 0, .int .i64 0, .bool false] 33)).drew).mono ?_; rintro e w5 ⟨rfl, hb5⟩; have hb5' := (below_of hb5); have hB5 : Below wr.heap.size wr w5 := ((Below.refl _ wr).alloc (Nat.le_refl _) _).trans (hb5'.mono (by simp)); have hE5 := (hb5'.block wr.heap.size (by simp)).trans (World.alloc_heap_new wr (.cells #[.int .i64 0, .string ⟨#[]⟩, .int .i64 0, .int .i64 0, .bool false] 33)); obtain ⟨q0, r0⟩ := arr_cell hE5 (k := 0) rfl; obtain ⟨q1, r1⟩ := arr_cell hE5 (k := 1) rfl; obtain ⟨q2, r2⟩ := arr_cell hE5 (k := 2) rfl; obtain ⟨q3, r3⟩ := arr_cell hE5 (k := 3) rfl; obtain ⟨q4, r4⟩ := arr_cell hE5 (k := 4) rfl
                        refine hK.out _ _ ?_ (fun hHeld9 => ?_)
                        · exact HSK.out _ hB5
                        clear hK K
                        (try simp only [Act.put, List.setIfInBounds_toArray, List.set_cons_zero, List.set_cons_succ])
                        refine wpAnyH_take (i := 10) (oi := { dst := some 86, op := Op.move (Operand.tmp 96), type := 131, pos := "kindredref6.go:239", after := #[{ on := 9, ground := Ground.data }], guard := none }) (v := ?_) rfl (by kernel_rfl) (by kernel_rfl) (by kernel_rfl) (fun _ _ _ h => h) (Or.inl ⟨by rfl, ?_⟩) (by assumption) ?_
                        rotate_left 1
                        · intro w hSw
                          (try dsimp only at hSw)
                          go_simp
                          try with_reducible rfl
                        (try simp only [Act.put, List.setIfInBounds_toArray, List.set_cons_zero, List.set_cons_succ])
                        refine wpAnyH_take (i := 11) (oi := { dst := some 97, op := Op.extract (Operand.tmp 86) 0, type := 33, pos := "kindredref6.go:239", after := #[{ on := 10, ground := Ground.data }], guard := none }) (v := ?_) rfl (by kernel_rfl) (by kernel_rfl) (by kernel_rfl) (fun _ _ _ h => h) (Or.inl ⟨by rfl, ?_⟩) (by assumption) ?_
                        rotate_left 1
                        · intro w hSw
                          (try dsimp only at hSw)
                          go_simp
                          try with_reducible rfl
                        (try simp only [Act.put, List.setIfInBounds_toArray, List.set_cons_zero, List.set_cons_succ])
                        refine wpAnyH_take (i := 12) (oi := { dst := some 98, op := Op.extract (Operand.tmp 86) 1, type := 3, pos := "kindredref6.go:239", after := #[{ on := 10, ground := Ground.data }, { on := 15, ground := Ground.gcOnly Departure.lateStores }], guard := none }) (v := ?_) rfl (by kernel_rfl) (by kernel_rfl) (by kernel_rfl) (fun _ _ _ h => h) (Or.inl ⟨by rfl, ?_⟩) (by assumption) ?_
                        rotate_left 1
                        · intro w hSw
                          (try dsimp only at hSw)
                          go_simp
                          try with_reducible rfl
                        (try simp only [Act.put, List.setIfInBounds_toArray, List.set_cons_zero, List.set_cons_succ])
                        refine wpAnyH_take (i := 13) (oi := { dst := some 99, op := Op.extract (Operand.tmp 86) 2, type := 4, pos := "kindredref6.go:239", after := #[{ on := 10, ground := Ground.data }, { on := 16, ground := Ground.gcOnly Departure.lateStores }], guard := none }) (v := ?_) rfl (by kernel_rfl) (by kernel_rfl) (by kernel_rfl) (fun _ _ _ h => h) (Or.inl ⟨by rfl, ?_⟩) (by assumption) ?_
                        rotate_left 1
                        · intro w hSw
                          (try dsimp only at hSw)
                          go_simp
                          try with_reducible rfl
                        (try simp only [Act.put, List.setIfInBounds_toArray, List.set_cons_zero, List.set_cons_succ])
                        refine wpAnyH_ready (rs := [15]) (by kernel_rfl) (by simp) ?_
                        refine AllReadyH.cons (o := { dst := none, op := Op.store 33 (Operand.tmp 13) (Operand.tmp 97), type := 0, pos := "kindredref6.go:239", after := #[{ on := 14, ground := Ground.data }, { on := 11, ground := Ground.data }, { on := 9, ground := Ground.chain }, { on := 0, ground := Ground.phase }, { on := 1, ground := Ground.phase }, { on := 2, ground := Ground.phase }, { on := 3, ground := Ground.phase }, { on := 4, ground := Ground.phase }, { on := 5, ground := Ground.phase }, { on := 6, ground := Ground.phase }, { on := 7, ground := Ground.phase }, { on := 8, ground := Ground.phase }, { on := 9, ground := Ground.phase }, { on := 10, ground := Ground.phase }, { on := 11, ground := Ground.phase }, { on := 12, ground := Ground.textOnly Departure.lateStores }, { on := 13, ground := Ground.textOnly Departure.lateStores }, { on := 14, ground := Ground.phase }], guard := none }) rfl (fun K hK => ?_) ?_
                        rotate_left 1
                        · exact AllReadyH.nil
                        go_simp
                        refine hK.out _ _ ?_ (fun hHeld15 => ?_)
                        · exact HSK.out _ (below_five hB5 (Nat.le_refl _) _ _ _ _ _)
                        clear hK K
                        (try simp only [Act.put, List.setIfInBounds_toArray, List.set_cons_zero, List.set_cons_succ])
                        refine wpAnyH_take (i := 16) (oi := { dst := some 14, op := Op.assign (Operand.tmp 98), type := 3, pos := "kindredref6.go:239", after := #[{ on := 12, ground := Ground.data }, { on := 15, ground := Ground.chain }, { on := 0, ground := Ground.phase }, { on := 1, ground := Ground.phase }, { on := 2, ground := Ground.phase }, { on := 3, ground := Ground.phase }, { on := 4, ground := Ground.phase }, { on := 5, ground := Ground.phase }, { on := 6, ground := Ground.phase }, { on := 7, ground := Ground.phase }, { on := 8, ground := Ground.phase }, { on := 9, ground := Ground.phase }, { on := 10, ground := Ground.phase }, { on := 11, ground := Ground.phase }, { on := 12, ground := Ground.phase }, { on := 13, ground := Ground.textOnly Departure.lateStores }, { on := 14, ground := Ground.phase }, { on := 15, ground := Ground.phase }], guard := none }) (v := ?_) rfl (by kernel_rfl) (by kernel_rfl) (by kernel_rfl) (fun _ _ _ h => h) (Or.inl ⟨by rfl, ?_⟩) (by assumption) ?_
                        rotate_left 1
                        · intro w hSw
                          (try dsimp only at hSw)
                          go_simp
                          try with_reducible rfl
                        (try simp only [Act.put, List.setIfInBounds_toArray, List.set_cons_zero, List.set_cons_succ])
                        refine wpAnyH_take (i := 17) (oi := { dst := some 15, op := Op.assign (Operand.tmp 99), type := 4, pos := "kindredref6.go:239", after := #[{ on := 13, ground := Ground.data }, { on := 16, ground := Ground.chain }, { on := 0, ground := Ground.phase }, { on := 1, ground := Ground.phase }, { on := 2, ground := Ground.phase }, { on := 3, ground := Ground.phase }, { on := 4, ground := Ground.phase }, { on := 5, ground := Ground.phase }, { on := 6, ground := Ground.phase }, { on := 7, ground := Ground.phase }, { on := 8, ground := Ground.phase }, { on := 9, ground := Ground.phase }, { on := 10, ground := Ground.phase }, { on := 11, ground := Ground.phase }, { on := 12, ground := Ground.phase }, { on := 13, ground := Ground.phase }, { on := 14, ground := Ground.phase }, { on := 15, ground := Ground.phase }, { on := 16, ground := Ground.phase }], guard := none }) (v := ?_) rfl (by kernel_rfl) (by kernel_rfl) (by kernel_rfl) (fun _ _ _ h => h) (Or.inl ⟨by rfl, ?_⟩) (by assumption) ?_
                        rotate_left 1
                        · intro w hSw
                          (try dsimp only at hSw)
                          go_simp
                          try with_reducible rfl
                        (try simp only [Act.put, List.setIfInBounds_toArray, List.set_cons_zero, List.set_cons_succ])
                        refine wpAnyH_done (by kernel_rfl) ?_ _
                        obtain ⟨WE, hWE⟩ : ∃ W, (((((w5.setCell ⟨wr.heap.size, 0, none⟩ (.int .i64 0)).setCell ⟨wr.heap.size, 1, none⟩ (.string ⟨#[]⟩)).setCell ⟨wr.heap.size, 2, none⟩ (.int .i64 0)).setCell ⟨wr.heap.size, 3, none⟩ (.int .i64 0)).setCell ⟨wr.heap.size, 4, none⟩ (.bool false)) = W := ⟨_, rfl⟩
                        have hbE : Below wr.heap.size wr WE := by rw [← hWE]; exact below_five hB5 (Nat.le_refl _) _ _ _ _ _
                        have hxE : WE.heap[wr.heap.size]? = some (.cells #[.int .i64 0, .string ⟨#[]⟩, .int .i64 0, .int .i64 0, .bool false] 33 (0, 0)) := by rw [← hWE]; exact set_five hE5 _ _ _ _ _
                        rw [hWE]
                        clear hWE hE5 q0 r0 q1 r1 q2 r2 q3 r3 q4 r4
                        have hzE := (hbE.block _ hzl).trans HZR.out
                        unfold zero6 at hzE
                        obtain ⟨d0, k0⟩ := arr_cell hzE (k := 0) rfl
                        obtain ⟨d1, k1⟩ := arr_cell hzE (k := 1) rfl
                        obtain ⟨d2, k2⟩ := arr_cell hzE (k := 2) rfl
                        obtain ⟨d3, k3⟩ := arr_cell hzE (k := 3) rfl
                        obtain ⟨d4, k4⟩ := arr_cell hzE (k := 4) rfl
                        obtain ⟨d5, k5⟩ := arr_cell hzE (k := 5) rfl
                        have HBE := Lib.hid (HBL.out.trans (hbE.mono HBL.out.size))
                        clear hHeld hHeld9 hHeld14 hHeld15
                        clear hzE hbE hxE hb5 hB5
                        go_wp2
                        try rw [hL]
                        refine bodyPost_ret (v := .tuple #[.agg #[.int .i64 0, .int .i64 0, .int .i64 0, .int .i64 0, .int .i64 0, .int .i64 0], .slice none 0 0, .bool false]) ?_ rfl (HE.out _ (below_six HBE.out (Nat.le_refl _) _ _ _ _ _ _))
                        rw [results_cell_tmp2B rfl]
                        go_simp
                    | some q =>
                      obtain ⟨x, nx⟩ := q
                      rw [hent] at hrb
                      simp only at hrb
                      obtain ⟨hn1, hn2, hn3⟩ := entR_next hent
                      have HCE : Hid (∀ W, Calls Tryd.prog 74 #[.string S, .int .i64 (a : Int), .int .i64 (cb : Int)] W fun e w' => e = .returned (.tuple #[.agg #[.int .i64 x.v, .string x.c, .int .i64 x.i, .int .i64 x.s, .bool x.d], .int .i64 (nx : Nat), .bool true]) ∧ Below W.heap.size W w') := Lib.hid (fun W => (CE W).mono (by
                        rintro e w' ⟨hb, ⟨x', nx', h1, rfl⟩ | ⟨h1, _⟩⟩
                        · rw [hent] at h1
                          cases h1
                          exact ⟨rfl, hb⟩
                        · rw [hent] at h1; cases h1))
                      have HNx : Hid (∀ W lv', W.heap[w.heap.size]? = some zero6 → W.heap[HB]? = some (.cells #[.int .i64 n0, .int .i64 n1, .int .i64 n2, .int .i64 n3, .int .i64 n4, .int .i64 n5] 23 (0, 0)) → W.ownsRow (w.heap.size + 1) 33 5 lv' (acc.length + 1) (encE acc ++ x.cells) → Below w.heap.size w W → RdiRel w HB ⟨n0, n1, n2, n3, n4, n5⟩ cb pd k RB nx lv' W) := Lib.hid (fun W lv' q1 q2 q3 q4 => by
                        refine ⟨acc ++ [x], f, hn2, by omega, hrb, by rw [List.length_append]; simp only [List.length_singleton]; omega, fun e he => ?_, q1, q2, by rw [encE_snoc, List.length_append]; exact q3, q4⟩
                        rcases List.mem_append.1 he with he | he
                        · exact hcod e he
                        · rw [List.mem_singleton] at he
                          subst he
                          omega)
                      have hal2 : acc.length ≤ 1048577 * k + a := hal
                      clear hfo hzr hhr hown hbl CE hrb hent
                      go_wp2
                      refine wp_region_held_drew (S := (fun W => W.cell? ⟨fg, k * 3 + 1, none⟩ = some (.string S) ∧ W.cell? ⟨HB, 0, none⟩ = some (.int .i64 n0))) (by kernel_rfl) ?_ (fun hHeld => ?_)
                      · exact HSK.out _ (Below.refl _ wr).drew
                      refine wpAnyH_take (i := 0) (oi := { dst := some 87, op := Op.move (Operand.tmp 0), type := 79, pos := "kindredref6.go:239", after := #[], guard := none }) (v := ?_) rfl (by kernel_rfl) (by kernel_rfl) (by kernel_rfl) (fun _ _ _ h => h) (Or.inl ⟨by rfl, ?_⟩) (by assumption) ?_
                      rotate_left 1
                      · intro w hSw
                        (try dsimp only at hSw)
                        go_simp
                        try with_reducible rfl
                      (try simp only [Act.put, List.setIfInBounds_toArray, List.set_cons_zero, List.set_cons_succ])
                      refine wpAnyH_take (i := 1) (oi := { dst := some 88, op := Op.move (Operand.tmp 11), type := 3, pos := "kindredref6.go:239", after := #[], guard := none }) (v := ?_) rfl (by kernel_rfl) (by kernel_rfl) (by kernel_rfl) (fun _ _ _ h => h) (Or.inl ⟨by rfl, ?_⟩) (by assumption) ?_
                      rotate_left 1
                      · intro w hSw
                        (try dsimp only at hSw)
                        go_simp
                        try with_reducible rfl
                      (try simp only [Act.put, List.setIfInBounds_toArray, List.set_cons_zero, List.set_cons_succ])
                      refine wpAnyH_take (i := 2) (oi := { dst := some 89, op := Op.indexAddr 79 (Operand.tmp 87) (Operand.tmp 88), type := 0, pos := "kindredref6.go:239", after := #[{ on := 0, ground := Ground.data }, { on := 1, ground := Ground.data }], guard := none }) (v := ?_) rfl (by kernel_rfl) (by kernel_rfl) (by kernel_rfl) (fun _ _ _ h => h) (Or.inl ⟨by rfl, ?_⟩) (by assumption) ?_
                      rotate_left 1
                      · intro w hSw
                        (try dsimp only at hSw)
                        go_simp
                        try with_reducible rfl
                      (try simp only [Act.put, List.setIfInBounds_toArray, List.set_cons_zero, List.set_cons_succ])
                      refine wpAnyH_take (i := 3) (oi := { dst := some 90, op := Op.fieldAddr 83 (Operand.tmp 89) 1, type := 0, pos := "kindredref6.go:239", after := #[{ on := 2, ground := Ground.data }], guard := none }) (v := ?_) rfl (by kernel_rfl) (by kernel_rfl) (by kernel_rfl) (fun _ _ _ h => h) (Or.inl ⟨by rfl, ?_⟩) (by assumption) ?_
                      rotate_left 1
                      · intro w hSw
                        (try dsimp only at hSw)
                        go_simp
                        try with_reducible rfl
                      (try simp only [Act.put, List.setIfInBounds_toArray, List.set_cons_zero, List.set_cons_succ])
                      refine wpAnyH_take (i := 4) (oi := { dst := some 91, op := Op.load 9 (Operand.tmp 90), type := 9, pos := "kindredref6.go:239", after := #[{ on := 3, ground := Ground.data }], guard := none }) (v := ?_) rfl (by kernel_rfl) (by kernel_rfl) (by kernel_rfl) (fun _ _ _ h => h) (Or.inl ⟨by rfl, ?_⟩) (by assumption) ?_
                      rotate_left 1
                      · intro w hSw
                        (try dsimp only at hSw)
                        go_simp
                        try with_reducible rfl
                      (try simp only [Act.put, List.setIfInBounds_toArray, List.set_cons_zero, List.set_cons_succ])
                      refine wpAnyH_take (i := 5) (oi := { dst := some 92, op := Op.move (Operand.tmp 12), type := 3, pos := "kindredref6.go:239", after := #[], guard := none }) (v := ?_) rfl (by kernel_rfl) (by kernel_rfl) (by kernel_rfl) (fun _ _ _ h => h) (Or.inl ⟨by rfl, ?_⟩) (by assumption) ?_
                      rotate_left 1
                      · intro w hSw
                        (try dsimp only at hSw)
                        go_simp
                        try with_reducible rfl
                      (try simp only [Act.put, List.setIfInBounds_toArray, List.set_cons_zero, List.set_cons_succ])
                      refine wpAnyH_take (i := 6) (oi := { dst := some 93, op := Op.fieldAddr 23 (Operand.tmp 8) 0, type := 0, pos := "kindredref6.go:239", after := #[], guard := none }) (v := ?_) rfl (by kernel_rfl) (by kernel_rfl) (by kernel_rfl) (fun _ _ _ h => h) (Or.inl ⟨by rfl, ?_⟩) (by assumption) ?_
                      rotate_left 1
                      · intro w hSw
                        (try dsimp only at hSw)
                        go_simp
                        try with_reducible rfl
                      (try simp only [Act.put, List.setIfInBounds_toArray, List.set_cons_zero, List.set_cons_succ])
                      refine wpAnyH_take (i := 7) (oi := { dst := some 94, op := Op.load 3 (Operand.tmp 93), type := 3, pos := "kindredref6.go:239", after := #[{ on := 6, ground := Ground.data }], guard := none }) (v := ?_) rfl (by kernel_rfl) (by kernel_rfl) (by kernel_rfl) (fun _ _ _ h => h) (Or.inl ⟨by rfl, ?_⟩) (by assumption) ?_
                      rotate_left 1
                      · intro w hSw
                        (try dsimp only at hSw)
                        go_simp
                        try with_reducible rfl
                      (try simp only [Act.put, List.setIfInBounds_toArray, List.set_cons_zero, List.set_cons_succ])
                      refine wpAnyH_take (i := 8) (oi := { dst := some 95, op := Op.binOp BinOp.quo 3 (Operand.tmp 94) (Operand.const (Value.int IntKind.i64 8)) 3, type := 3, pos := "kindredref6.go:239", after := #[{ on := 7, ground := Ground.data }], guard := none }) (v := ?_) rfl (by kernel_rfl) (by kernel_rfl) (by kernel_rfl) (fun _ _ _ h => h) (Or.inl ⟨by rfl, ?_⟩) (by assumption) ?_
                      rotate_left 1
                      · intro w hSw
                        (try dsimp only at hSw)
                        go_simp
                        try with_reducible rfl
                      (try simp only [Act.put, List.setIfInBounds_toArray, List.set_cons_zero, List.set_cons_succ])
                      refine wpAnyH_ready (rs := [9, 14]) (by kernel_rfl) (by simp) ?_
                      refine AllReadyH.cons (o := { dst := some 96, op := Op.call { callee := Callee.value (Operand.func 74), args := #[Operand.tmp 91, Operand.tmp 92, Operand.tmp 95], argTypes := #[9, 3, 3] }, type := 131, pos := "kindredref6.go:239", after := #[{ on := 4, ground := Ground.data }, { on := 5, ground := Ground.data }, { on := 8, ground := Ground.data }], guard := none }) rfl (fun K hK => ?_) (AllReadyH.cons (o := { dst := some 13, op := Op.alloc 33, type := 0, pos := "kindredref6.go:239", after := #[], guard := none }) rfl (fun K hK => ?_) AllReadyH.nil)
                      · go_simp
                        go_at_call 74; refine (HCE.out wr.drew).mono ?_; rintro e w5 ⟨rfl, hb5⟩; have hB5 : Below wr.heap.size wr w5 := (below_of hb5)
                        refine hK.out _ _ ?_ (fun hHeld9 => ?_)
                        · exact HSK.out _ hB5
                        clear hK K
                        (try simp only [Act.put, List.setIfInBounds_toArray, List.set_cons_zero, List.set_cons_succ])
                        refine wpAnyH_take (i := 10) (oi := { dst := some 86, op := Op.move (Operand.tmp 96), type := 131, pos := "kindredref6.go:239", after := #[{ on := 9, ground := Ground.data }], guard := none }) (v := ?_) rfl (by kernel_rfl) (by kernel_rfl) (by kernel_rfl) (fun _ _ _ h => h) (Or.inl ⟨by rfl, ?_⟩) (by assumption) ?_
                        rotate_left 1
                        · intro w hSw
                          (try dsimp only at hSw)
                          go_simp
                          try with_reducible rfl
                        (try simp only [Act.put, List.setIfInBounds_toArray, List.set_cons_zero, List.set_cons_succ])
                        refine wpAnyH_take (i := 11) (oi := { dst := some 97, op := Op.extract (Operand.tmp 86) 0, type := 33, pos := "kindredref6.go:239", after := #[{ on := 10, ground := Ground.data }], guard := none }) (v := ?_) rfl (by kernel_rfl) (by kernel_rfl) (by kernel_rfl) (fun _ _ _ h => h) (Or.inl ⟨by rfl, ?_⟩) (by assumption) ?_
                        rotate_left 1
                        · intro w hSw
                          (try dsimp only at hSw)
                          go_simp
                          try with_reducible rfl
                        (try simp only [Act.put, List.setIfInBounds_toArray, List.set_cons_zero, List.set_cons_succ])
                        refine wpAnyH_take (i := 12) (oi := { dst := some 98, op := Op.extract (Operand.tmp 86) 1, type := 3, pos := "kindredref6.go:239", after := #[{ on := 10, ground := Ground.data }, { on := 15, ground := Ground.gcOnly Departure.lateStores }], guard := none }) (v := ?_) rfl (by kernel_rfl) (by kernel_rfl) (by kernel_rfl) (fun _ _ _ h => h) (Or.inl ⟨by rfl, ?_⟩) (by assumption) ?_
                        rotate_left 1
                        · intro w hSw
                          (try dsimp only at hSw)
                          go_simp
                          try with_reducible rfl
                        (try simp only [Act.put, List.setIfInBounds_toArray, List.set_cons_zero, List.set_cons_succ])
                        refine wpAnyH_take (i := 13) (oi := { dst := some 99, op := Op.extract (Operand.tmp 86) 2, type := 4, pos := "kindredref6.go:239", after := #[{ on := 10, ground := Ground.data }, { on := 16, ground := Ground.gcOnly Departure.lateStores }], guard := none }) (v := ?_) rfl (by kernel_rfl) (by kernel_rfl) (by kernel_rfl) (fun _ _ _ h => h) (Or.inl ⟨by rfl, ?_⟩) (by assumption) ?_
                        rotate_left 1
                        · intro w hSw
                          (try dsimp only at hSw)
                          go_simp
                          try with_reducible rfl
                        (try simp only [Act.put, List.setIfInBounds_toArray, List.set_cons_zero, List.set_cons_succ])
                        refine wpAnyH_ready (rs := [14]) (by kernel_rfl) (by simp) ?_
                        refine AllReadyH.cons (o := { dst := some 13, op := Op.alloc 33, type := 0, pos := "kindredref6.go:239", after := #[], guard := none }) rfl (fun K hK => ?_) ?_
                        rotate_left 1
                        · exact AllReadyH.nil
                        go_simp
                        refine hK.out _ _ ?_ (fun hHeld14 => ?_)
                        · exact HSK.out _ (hB5.alloc hB5.size _)
                        clear hK K
                        (try simp only [Act.put, List.setIfInBounds_toArray, List.set_cons_zero, List.set_cons_succ])
                        refine wpAnyH_ready (rs := [15]) (by kernel_rfl) (by simp) ?_
                        refine AllReadyH.cons (o := { dst := none, op := Op.store 33 (Operand.tmp 13) (Operand.tmp 97), type := 0, pos := "kindredref6.go:239", after := #[{ on := 14, ground := Ground.data }, { on := 11, ground := Ground.data }, { on := 9, ground := Ground.chain }, { on := 0, ground := Ground.phase }, { on := 1, ground := Ground.phase }, { on := 2, ground := Ground.phase }, { on := 3, ground := Ground.phase }, { on := 4, ground := Ground.phase }, { on := 5, ground := Ground.phase }, { on := 6, ground := Ground.phase }, { on := 7, ground := Ground.phase }, { on := 8, ground := Ground.phase }, { on := 9, ground := Ground.phase }, { on := 10, ground := Ground.phase }, { on := 11, ground := Ground.phase }, { on := 12, ground := Ground.textOnly Departure.lateStores }, { on := 13, ground := Ground.textOnly Departure.lateStores }, { on := 14, ground := Ground.phase }], guard := none }) rfl (fun K hK => ?_) ?_
                        rotate_left 1
                        · exact AllReadyH.nil
                        go_simp
                        refine hK.out _ _ ?_ (fun hHeld15 => ?_)
                        · exact HSK.out _ (hB5.alloc hB5.size _)
                        clear hK K
                        (try simp only [Act.put, List.setIfInBounds_toArray, List.set_cons_zero, List.set_cons_succ])
                        refine wpAnyH_take (i := 16) (oi := { dst := some 14, op := Op.assign (Operand.tmp 98), type := 3, pos := "kindredref6.go:239", after := #[{ on := 12, ground := Ground.data }, { on := 15, ground := Ground.chain }, { on := 0, ground := Ground.phase }, { on := 1, ground := Ground.phase }, { on := 2, ground := Ground.phase }, { on := 3, ground := Ground.phase }, { on := 4, ground := Ground.phase }, { on := 5, ground := Ground.phase }, { on := 6, ground := Ground.phase }, { on := 7, ground := Ground.phase }, { on := 8, ground := Ground.phase }, { on := 9, ground := Ground.phase }, { on := 10, ground := Ground.phase }, { on := 11, ground := Ground.phase }, { on := 12, ground := Ground.phase }, { on := 13, ground := Ground.textOnly Departure.lateStores }, { on := 14, ground := Ground.phase }, { on := 15, ground := Ground.phase }], guard := none }) (v := ?_) rfl (by kernel_rfl) (by kernel_rfl) (by kernel_rfl) (fun _ _ _ h => h) (Or.inl ⟨by rfl, ?_⟩) (by assumption) ?_
                        rotate_left 1
                        · intro w hSw
                          (try dsimp only at hSw)
                          go_simp
                          try with_reducible rfl
                        (try simp only [Act.put, List.setIfInBounds_toArray, List.set_cons_zero, List.set_cons_succ])
                        refine wpAnyH_take (i := 17) (oi := { dst := some 15, op := Op.assign (Operand.tmp 99), type := 4, pos := "kindredref6.go:239", after := #[{ on := 13, ground := Ground.data }, { on := 16, ground := Ground.chain }, { on := 0, ground := Ground.phase }, { on := 1, ground := Ground.phase }, { on := 2, ground := Ground.phase }, { on := 3, ground := Ground.phase }, { on := 4, ground := Ground.phase }, { on := 5, ground := Ground.phase }, { on := 6, ground := Ground.phase }, { on := 7, ground := Ground.phase }, { on := 8, ground := Ground.phase }, { on := 9, ground := Ground.phase }, { on := 10, ground := Ground.phase }, { on := 11, ground := Ground.phase }, { on := 12, ground := Ground.phase }, { on := 13, ground := Ground.phase }, { on := 14, ground := Ground.phase }, { on := 15, ground := Ground.phase }, { on := 16, ground := Ground.phase }], guard := none }) (v := ?_) rfl (by kernel_rfl) (by kernel_rfl) (by kernel_rfl) (fun _ _ _ h => h) (Or.inl ⟨by rfl, ?_⟩) (by assumption) ?_
                        rotate_left 1
                        · intro w hSw
                          (try dsimp only at hSw)
                          go_simp
                          try with_reducible rfl
                        (try simp only [Act.put, List.setIfInBounds_toArray, List.set_cons_zero, List.set_cons_succ])
                        refine wpAnyH_done (by kernel_rfl) ?_ _
                        obtain ⟨WE, hWE⟩ : ∃ W, w5.alloc (.cells #[.int .i64 x.v, .string x.c, .int .i64 x.i, .int .i64 x.s, .bool x.d] 33) = W := ⟨_, rfl⟩
                        have hbE : Below wr.heap.size wr WE := by rw [← hWE]; exact hB5.alloc hB5.size _
                        have hxE : WE.heap[w5.heap.size]? = some (.cells #[.int .i64 x.v, .string x.c, .int .i64 x.i, .int .i64 x.s, .bool x.d] 33 (0, 0)) := by rw [← hWE]; exact World.alloc_heap_new _ _
                        rw [hWE]
                        clear hWE 
                        obtain ⟨z0, z1, z2, z3, z4⟩ := cells5 hxE
                        have hoE := own_belowAll HOW.out hbE
                        have hq := Lib.hid (hoE.alloc (.cells #[.int .i64 x.v, .string x.c, .int .i64 x.i, .int .i64 x.s, .bool x.d] 33))
                        have hnews := Lib.hid (World.news_of_block (World.alloc_heap_new WE (.cells #[.int .i64 x.v, .string x.c, .int .i64 x.i, .int .i64 x.s, .bool x.d] 33)))
                        have hwsE : w.heap.size + 1 ≤ WE.heap.size := by have := hbE.size; omega
                        have HBE := Lib.hid hbE
                        have hneH := own_type_ne HOW.out HHR.out (by decide)
                        have hlnH : HB < WE.heap.size := Nat.lt_of_lt_of_le hhl hbE.size
                        clear hHeld hHeld9 hHeld14 hHeld15
                        clear hoE hbE hxE hb5 hB5
                        go_wp2_with (at_builtin; refine wpList_append_own _ rfl _ _ 24 rfl (w.heap.size + 1) 33 i0 _ 5 48 Tryd.underlying24 hi hz0 hz1 hz2 rfl (by decide) (.slice lp acc.length lc) acc.length _ rfl hq.out ⟨WE.heap.size, 0, none⟩ 1 1 [.int .i64 x.v, .string x.c, .int .i64 x.i, .int .i64 x.s, .bool x.d] rfl rfl hnews.out (by simp [Value.oneCell']) (by unfold maxLen; omega) (by omega) (by simp; omega) ?_; intro v6 w6 hown6 hgrow6 _)
                        refine ⟨⟨nx, rfl, HNx.out _ _ ?_ ?_ hown6 ?_⟩, by simp [intOf]; omega⟩
                        · exact ((hgrow6.block w.heap.size (by simp; omega) (fun e => by have := (HOW.out.lt _ e.symm).1; omega)).trans (Below.heap_alloc _ _ _ (by omega))).trans ((HBE.out.block _ hzl).trans HZR.out)
                        · exact ((hgrow6.block HB (by simp; omega) (fun e => hneH e.symm)).trans (Below.heap_alloc _ _ _ hlnH)).trans ((HBE.out.block _ hhl).trans HHR.out)
                        · have h1 := (HBL.out.trans (HBE.out.mono HBL.out.size)).alloc (HBL.out.trans (HBE.out.mono HBL.out.size)).size (.cells #[.int .i64 x.v, .string x.c, .int .i64 x.i, .int .i64 x.s, .bool x.d] 33)
                          exact h1.grown hgrow6 h1.size (fun j e => by have := (HOW.out.lt j e).1; omega)
                      · go_simp
                        refine hK.out _ _ ?_ (fun hHeld14 => ?_)
                        · exact HSK.out _ ((Below.refl _ wr).alloc (Nat.le_refl _) _).drew
                        clear hK K
                        (try simp only [Act.put, List.setIfInBounds_toArray, List.set_cons_zero, List.set_cons_succ])
                        refine wpAnyH_ready (rs := [9]) (by kernel_rfl) (by simp) ?_
                        refine AllReadyH.cons (o := { dst := some 96, op := Op.call { callee := Callee.value (Operand.func 74), args := #[Operand.tmp 91, Operand.tmp 92, Operand.tmp 95], argTypes := #[9, 3, 3] }, type := 131, pos := "kindredref6.go:239", after := #[{ on := 4, ground := Ground.data }, { on := 5, ground := Ground.data }, { on := 8, ground := Ground.data }], guard := none }) rfl (fun K hK => ?_) ?_
                        rotate_left 1
                        · exact AllReadyH.nil
                        go_simp
                        go_at_call 74; refine (HCE.out (wr.alloc (.cells #[.int .i64 0, .string ⟨#[]⟩, .int .i64 0, .int .i64 0, .bool false] 33)).drew).mono ?_; rintro e w5 ⟨rfl, hb5⟩; have hb5' := (below_of hb5); have hB5 : Below wr.heap.size wr w5 := ((Below.refl _ wr).alloc (Nat.le_refl _) _).trans (hb5'.mono (by simp)); have hE5 := (hb5'.block wr.heap.size (by simp)).trans (World.alloc_heap_new wr (.cells #[.int .i64 0, .string ⟨#[]⟩, .int .i64 0, .int .i64 0, .bool false] 33)); obtain ⟨q0, r0⟩ := arr_cell hE5 (k := 0) rfl; obtain ⟨q1, r1⟩ := arr_cell hE5 (k := 1) rfl; obtain ⟨q2, r2⟩ := arr_cell hE5 (k := 2) rfl; obtain ⟨q3, r3⟩ := arr_cell hE5 (k := 3) rfl; obtain ⟨q4, r4⟩ := arr_cell hE5 (k := 4) rfl
                        refine hK.out _ _ ?_ (fun hHeld9 => ?_)
                        · exact HSK.out _ hB5
                        clear hK K
                        (try simp only [Act.put, List.setIfInBounds_toArray, List.set_cons_zero, List.set_cons_succ])
                        refine wpAnyH_take (i := 10) (oi := { dst := some 86, op := Op.move (Operand.tmp 96), type := 131, pos := "kindredref6.go:239", after := #[{ on := 9, ground := Ground.data }], guard := none }) (v := ?_) rfl (by kernel_rfl) (by kernel_rfl) (by kernel_rfl) (fun _ _ _ h => h) (Or.inl ⟨by rfl, ?_⟩) (by assumption) ?_
                        rotate_left 1
                        · intro w hSw
                          (try dsimp only at hSw)
                          go_simp
                          try with_reducible rfl
                        (try simp only [Act.put, List.setIfInBounds_toArray, List.set_cons_zero, List.set_cons_succ])
                        refine wpAnyH_take (i := 11) (oi := { dst := some 97, op := Op.extract (Operand.tmp 86) 0, type := 33, pos := "kindredref6.go:239", after := #[{ on := 10, ground := Ground.data }], guard := none }) (v := ?_) rfl (by kernel_rfl) (by kernel_rfl) (by kernel_rfl) (fun _ _ _ h => h) (Or.inl ⟨by rfl, ?_⟩) (by assumption) ?_
                        rotate_left 1
                        · intro w hSw
                          (try dsimp only at hSw)
                          go_simp
                          try with_reducible rfl
                        (try simp only [Act.put, List.setIfInBounds_toArray, List.set_cons_zero, List.set_cons_succ])
                        refine wpAnyH_take (i := 12) (oi := { dst := some 98, op := Op.extract (Operand.tmp 86) 1, type := 3, pos := "kindredref6.go:239", after := #[{ on := 10, ground := Ground.data }, { on := 15, ground := Ground.gcOnly Departure.lateStores }], guard := none }) (v := ?_) rfl (by kernel_rfl) (by kernel_rfl) (by kernel_rfl) (fun _ _ _ h => h) (Or.inl ⟨by rfl, ?_⟩) (by assumption) ?_
                        rotate_left 1
                        · intro w hSw
                          (try dsimp only at hSw)
                          go_simp
                          try with_reducible rfl
                        (try simp only [Act.put, List.setIfInBounds_toArray, List.set_cons_zero, List.set_cons_succ])
                        refine wpAnyH_take (i := 13) (oi := { dst := some 99, op := Op.extract (Operand.tmp 86) 2, type := 4, pos := "kindredref6.go:239", after := #[{ on := 10, ground := Ground.data }, { on := 16, ground := Ground.gcOnly Departure.lateStores }], guard := none }) (v := ?_) rfl (by kernel_rfl) (by kernel_rfl) (by kernel_rfl) (fun _ _ _ h => h) (Or.inl ⟨by rfl, ?_⟩) (by assumption) ?_
                        rotate_left 1
                        · intro w hSw
                          (try dsimp only at hSw)
                          go_simp
                          try with_reducible rfl
                        (try simp only [Act.put, List.setIfInBounds_toArray, List.set_cons_zero, List.set_cons_succ])
                        refine wpAnyH_ready (rs := [15]) (by kernel_rfl) (by simp) ?_
                        refine AllReadyH.cons (o := { dst := none, op := Op.store 33 (Operand.tmp 13) (Operand.tmp 97), type := 0, pos := "kindredref6.go:239", after := #[{ on := 14, ground := Ground.data }, { on := 11, ground := Ground.data }, { on := 9, ground := Ground.chain }, { on := 0, ground := Ground.phase }, { on := 1, ground := Ground.phase }, { on := 2, ground := Ground.phase }, { on := 3, ground := Ground.phase }, { on := 4, ground := Ground.phase }, { on := 5, ground := Ground.phase }, { on := 6, ground := Ground.phase }, { on := 7, ground := Ground.phase }, { on := 8, ground := Ground.phase }, { on := 9, ground := Ground.phase }, { on := 10, ground := Ground.phase }, { on := 11, ground := Ground.phase }, { on := 12, ground := Ground.textOnly Departure.lateStores }, { on := 13, ground := Ground.textOnly Departure.lateStores }, { on := 14, ground := Ground.phase }], guard := none }) rfl (fun K hK => ?_) ?_
                        rotate_left 1
                        · exact AllReadyH.nil
                        go_simp
                        refine hK.out _ _ ?_ (fun hHeld15 => ?_)
                        · exact HSK.out _ (below_five hB5 (Nat.le_refl _) _ _ _ _ _)
                        clear hK K
                        (try simp only [Act.put, List.setIfInBounds_toArray, List.set_cons_zero, List.set_cons_succ])
                        refine wpAnyH_take (i := 16) (oi := { dst := some 14, op := Op.assign (Operand.tmp 98), type := 3, pos := "kindredref6.go:239", after := #[{ on := 12, ground := Ground.data }, { on := 15, ground := Ground.chain }, { on := 0, ground := Ground.phase }, { on := 1, ground := Ground.phase }, { on := 2, ground := Ground.phase }, { on := 3, ground := Ground.phase }, { on := 4, ground := Ground.phase }, { on := 5, ground := Ground.phase }, { on := 6, ground := Ground.phase }, { on := 7, ground := Ground.phase }, { on := 8, ground := Ground.phase }, { on := 9, ground := Ground.phase }, { on := 10, ground := Ground.phase }, { on := 11, ground := Ground.phase }, { on := 12, ground := Ground.phase }, { on := 13, ground := Ground.textOnly Departure.lateStores }, { on := 14, ground := Ground.phase }, { on := 15, ground := Ground.phase }], guard := none }) (v := ?_) rfl (by kernel_rfl) (by kernel_rfl) (by kernel_rfl) (fun _ _ _ h => h) (Or.inl ⟨by rfl, ?_⟩) (by assumption) ?_
                        rotate_left 1
                        · intro w hSw
                          (try dsimp only at hSw)
                          go_simp
                          try with_reducible rfl
                        (try simp only [Act.put, List.setIfInBounds_toArray, List.set_cons_zero, List.set_cons_succ])
                        refine wpAnyH_take (i := 17) (oi := { dst := some 15, op := Op.assign (Operand.tmp 99), type := 4, pos := "kindredref6.go:239", after := #[{ on := 13, ground := Ground.data }, { on := 16, ground := Ground.chain }, { on := 0, ground := Ground.phase }, { on := 1, ground := Ground.phase }, { on := 2, ground := Ground.phase }, { on := 3, ground := Ground.phase }, { on := 4, ground := Ground.phase }, { on := 5, ground := Ground.phase }, { on := 6, ground := Ground.phase }, { on := 7, ground := Ground.phase }, { on := 8, ground := Ground.phase }, { on := 9, ground := Ground.phase }, { on := 10, ground := Ground.phase }, { on := 11, ground := Ground.phase }, { on := 12, ground := Ground.phase }, { on := 13, ground := Ground.phase }, { on := 14, ground := Ground.phase }, { on := 15, ground := Ground.phase }, { on := 16, ground := Ground.phase }], guard := none }) (v := ?_) rfl (by kernel_rfl) (by kernel_rfl) (by kernel_rfl) (fun _ _ _ h => h) (Or.inl ⟨by rfl, ?_⟩) (by assumption) ?_
                        rotate_left 1
                        · intro w hSw
                          (try dsimp only at hSw)
                          go_simp
                          try with_reducible rfl
                        (try simp only [Act.put, List.setIfInBounds_toArray, List.set_cons_zero, List.set_cons_succ])
                        refine wpAnyH_done (by kernel_rfl) ?_ _
                        obtain ⟨WE, hWE⟩ : ∃ W, (((((w5.setCell ⟨wr.heap.size, 0, none⟩ (.int .i64 x.v)).setCell ⟨wr.heap.size, 1, none⟩ (.string x.c)).setCell ⟨wr.heap.size, 2, none⟩ (.int .i64 x.i)).setCell ⟨wr.heap.size, 3, none⟩ (.int .i64 x.s)).setCell ⟨wr.heap.size, 4, none⟩ (.bool x.d)) = W := ⟨_, rfl⟩
                        have hbE : Below wr.heap.size wr WE := by rw [← hWE]; exact below_five hB5 (Nat.le_refl _) _ _ _ _ _
                        have hxE : WE.heap[wr.heap.size]? = some (.cells #[.int .i64 x.v, .string x.c, .int .i64 x.i, .int .i64 x.s, .bool x.d] 33 (0, 0)) := by rw [← hWE]; exact set_five hE5 _ _ _ _ _
                        rw [hWE]
                        clear hWE hE5 q0 r0 q1 r1 q2 r2 q3 r3 q4 r4
                        obtain ⟨z0, z1, z2, z3, z4⟩ := cells5 hxE
                        have hoE := own_belowAll HOW.out hbE
                        have hq := Lib.hid (hoE.alloc (.cells #[.int .i64 x.v, .string x.c, .int .i64 x.i, .int .i64 x.s, .bool x.d] 33))
                        have hnews := Lib.hid (World.news_of_block (World.alloc_heap_new WE (.cells #[.int .i64 x.v, .string x.c, .int .i64 x.i, .int .i64 x.s, .bool x.d] 33)))
                        have hwsE : w.heap.size + 1 ≤ WE.heap.size := by have := hbE.size; omega
                        have HBE := Lib.hid hbE
                        have hneH := own_type_ne HOW.out HHR.out (by decide)
                        have hlnH : HB < WE.heap.size := Nat.lt_of_lt_of_le hhl hbE.size
                        clear hHeld hHeld9 hHeld14 hHeld15
                        clear hoE hbE hxE hb5 hB5
                        go_wp2_with (at_builtin; refine wpList_append_own _ rfl _ _ 24 rfl (w.heap.size + 1) 33 i0 _ 5 48 Tryd.underlying24 hi hz0 hz1 hz2 rfl (by decide) (.slice lp acc.length lc) acc.length _ rfl hq.out ⟨WE.heap.size, 0, none⟩ 1 1 [.int .i64 x.v, .string x.c, .int .i64 x.i, .int .i64 x.s, .bool x.d] rfl rfl hnews.out (by simp [Value.oneCell']) (by unfold maxLen; omega) (by omega) (by simp; omega) ?_; intro v6 w6 hown6 hgrow6 _)
                        refine ⟨⟨nx, rfl, HNx.out _ _ ?_ ?_ hown6 ?_⟩, by simp [intOf]; omega⟩
                        · exact ((hgrow6.block w.heap.size (by simp; omega) (fun e => by have := (HOW.out.lt _ e.symm).1; omega)).trans (Below.heap_alloc _ _ _ (by omega))).trans ((HBE.out.block _ hzl).trans HZR.out)
                        · exact ((hgrow6.block HB (by simp; omega) (fun e => hneH e.symm)).trans (Below.heap_alloc _ _ _ hlnH)).trans ((HBE.out.block _ hhl).trans HHR.out)
                        · have h1 := (HBL.out.trans (HBE.out.mono HBL.out.size)).alloc (HBL.out.trans (HBE.out.mono HBL.out.size)).size (.cells #[.int .i64 x.v, .string x.c, .int .i64 x.i, .int .i64 x.s, .bool x.d] 33)
                          exact h1.grown hgrow6 h1.size (fun j e => by have := (HOW.out.lt j e).1; omega)
                  · obtain rfl : a = pd.length := by omega
                    have hRB2 : RB = some acc := by
                      rw [← hrb]
                      cases f with
                      | zero => rfl
                      | succ f => unfold readB; rw [if_neg (Nat.lt_irrefl _)]
                    have h2 := HRK2.out
                    rw [hRB2] at h2
                    simp only at h2
                    have HNx : Hid (RdRel w HB ⟨n0, n1, n2, n3, n4, n5⟩ (.slice (some ⟨fg, 0, none⟩) nf fc) L cb R (k + 1) (.slice lp acc.length lc) wr) := Lib.hid ⟨acc, by omega, by rw [hnf]; exact hlt, h2, by omega, hcod, hzr, hhr, hown, hbl⟩
                    have hla2 : ¬ ((pd.length : Int) < (S.size : Int)) := by omega
                    clear hfo hzr hhr hown hbl h2 hrb hRB2
                    go_wp2
                    go_roundw
                    case rel => exact ⟨k + 1, by go_num, HNx.out⟩
                    case measure => simp [intOf]; omega
              · have hkn : (kd == 5) = false := by simpa using hk5
                have hR : R = some acc := by
                  rw [← HRk.out]
                  rw [hdr, readFs, if_neg hk5]
                have hrd := HRd.out
                rw [hR, Option.map_some] at hrd
                have HEnd : Hid (∀ W, Below w.heap.size w W → W.ownsRow w.heap.size 33 5 (.slice lp acc.length lc) acc.length (encE acc) → ReadPost w L (.returned (.tuple #[.agg #[.int .i64 n0, .int .i64 n1, .int .i64 n2, .int .i64 n3, .int .i64 n4, .int .i64 n5], .slice lp acc.length lc, .bool true])) W) := Lib.hid (fun W hW hO => ⟨hW, .inl ⟨_, _, _, hrd, rfl, hO, by omega, hcod⟩⟩)
                have hO2 := Lib.hid (own_le (base' := w.heap.size) (own_six hown (g := w.heap.size) (by simp) (.int .i64 n0) (.int .i64 n1) (.int .i64 n2) (.int .i64 n3) (.int .i64 n4) (.int .i64 n5)) (by omega))
                have HBL := Lib.hid hbl
                clear hR hrd hown hzr hhr hbl
                go_wp2
                refine bodyPost_ret (v := .tuple #[.agg #[.int .i64 n0, .int .i64 n1, .int .i64 n2, .int .i64 n3, .int .i64 n4, .int .i64 n5], .slice lp acc.length lc, .bool true]) ?_ rfl (HEnd.out _ (below_six HBL.out (Nat.le_refl _) _ _ _ _ _ _) hO2.out)
                rw [results_cell_tmp2B rfl]
                go_simp
            · obtain rfl : k = nf := by omega
              have hR : R = some acc := by
                rw [← HRk.out]
                rw [List.drop_eq_nil_of_le (by rw [hnf]; exact Nat.le_refl _), readFs]
              have hrd := HRd.out
              rw [hR, Option.map_some] at hrd
              have HEnd : Hid (∀ W, Below w.heap.size w W → W.ownsRow w.heap.size 33 5 (.slice lp acc.length lc) acc.length (encE acc) → ReadPost w L (.returned (.tuple #[.agg #[.int .i64 n0, .int .i64 n1, .int .i64 n2, .int .i64 n3, .int .i64 n4, .int .i64 n5], .slice lp acc.length lc, .bool true])) W) := Lib.hid (fun W hW hO => ⟨hW, .inl ⟨_, _, _, hrd, rfl, hO, by omega, hcod⟩⟩)
              have hO2 := Lib.hid (own_le (base' := w.heap.size) (own_six hown (g := w.heap.size) (by simp) (.int .i64 n0) (.int .i64 n1) (.int .i64 n2) (.int .i64 n3) (.int .i64 n4) (.int .i64 n5)) (by omega))
              have HBL := Lib.hid hbl
              clear hR hrd hown hzr hhr hbl
              go_wp2
              refine bodyPost_ret (v := .tuple #[.agg #[.int .i64 n0, .int .i64 n1, .int .i64 n2, .int .i64 n3, .int .i64 n4, .int .i64 n5], .slice lp acc.length lc, .bool true]) ?_ rfl (HEnd.out _ (below_six HBL.out (Nat.le_refl _) _ _ _ _ _ _) hO2.out)
              rw [results_cell_tmp2B rfl]
              go_simp
      · have hN : readR (x :: fr) = none := by
          unfold readR
          simp only
          rw [if_neg (by rw [hkd]; simp), ← hpl2, hnum]
        have HE := Lib.hid (fun W hW => HN0.out W hN hW)
        clear hnum hN hzx
        go_wp2
        refine bodyPost_ret (v := .tuple #[.agg #[.int .i64 0, .int .i64 0, .int .i64 0, .int .i64 0, .int .i64 0, .int .i64 0], .slice none 0 0, .bool false]) ?_ rfl (HE.out _ (below_six HB2.out (Nat.le_refl _) _ _ _ _ _ _))
        rw [results_cell_tmp2B rfl]
        go_simp
    · have hN : readR (x :: fr) = none := by
        unfold readR
        simp only
        rw [if_pos (by rw [hkd]; exact hk4)]
      have HE := Lib.hid (HN0.out _ hN ((Below.refl _ w).alloc (Nat.le_refl _) zero6))
      unfold zero6 at HE
      have hne4 : ¬ ((nf : Int) = 0) := by omega
      have hkn : (kd != 4) = true := by simpa using hk4
      clear ho HN0 hN
      go_enter Tryd.func48, Tryd.ntmps48
      go_wp2
      refine bodyPost_ret (v := .tuple #[.agg #[.int .i64 0, .int .i64 0, .int .i64 0, .int .i64 0, .int .i64 0, .int .i64 0], .slice none 0 0, .bool false]) ?_ rfl HE.out
      rw [results_cell_tmp2B rfl]
      go_simp
end Go.Proofs.YtihgjihdmlomaaaDoor

/-
  WALK: a hit handed to a top, case by case. (Printed by topgen.py.)
-/
import Derived.Test.YtmfanldekjkbiaaDoorTopP
namespace Go.Proofs.YtmfanldekjkbiaaDoor
open Go.RowKit
set_option linter.unusedVariables false

theorem box2c {w : World} {b : Nat} {x y : Value} {t : TypeId} (h : w.heap[b]? = some (.cells #[x, y] t (0, 0))) : w.cell? ⟨b, 0, none⟩ = some x ∧ w.cell? ⟨b, 1, none⟩ = some y := by
  refine ⟨?_, ?_⟩ <;> simp [World.cell?, h]

theorem Gr.drewN {w w' : World} (h : Gr w w') (n : Nat) : Gr w (w'.drewN n) := by
  obtain ⟨q, os, rfl⟩ := h
  refine ⟨q + n, os, ?_⟩
  rw [← World.drewN_drewN]
  rfl

/-- The box of a top or a ball and its pile lie apart. -/
theorem box_apart {w : World} {tb pb mb : Nat} {v : Value} {L : List Hv} {cs : Array Value} {ty : TypeId} (hB : w.heap[tb]? = some (.cells cs ty (0, 0))) (hP : PileIs w pb mb v L) (h1 : ty ≠ 99) (h2 : ty ≠ 36) : tb ≠ pb ∧ tb ≠ mb ∧ v.ownBlock ≠ some tb := by
  obtain ⟨D, ⟨es, cl, hm, _⟩, _⟩ := hP.has
  have hb := hP.box
  refine ⟨fun e => ?_, fun e => ?_, fun e => ?_⟩
  · rw [e, hb] at hB
    have := Option.some.inj hB
    injection this with _ h3
    exact h1 h3.symm
  · rw [e, hm] at hB; cases hB
  · rcases hP.row.2 with ⟨k, _⟩ | ⟨g, c, cur, k, _, k2, _⟩
    · rw [k] at e; cases e
    · rw [k] at e
      obtain rfl : g = tb := Option.some.inj e
      rw [hB] at k2
      have := Option.some.inj k2
      injection this with _ h3
      exact h2 h3

/-- What Add leaves where it lets a hit in; X: what lies on the pile then. -/
def AddPost (w : World) (tb pb mb : Nat) (cs : Array Value) (ty : TypeId) (v : Value) (X : List Hv → Prop) (e : Ending) (w' : World) : Prop :=
  e = .returned (.bool true) ∧ ∃ v' L', w'.heap[tb]? = some (.cells cs ty (0, 0)) ∧ PileIs w' pb mb v' L' ∧ HeapH L' ∧ X L' ∧ Fr w w' [some pb, some mb, v.ownBlock] ∧ (v'.ownBlock = v.ownBlock ∨ ∃ g, v'.ownBlock = some g ∧ w.heap.size ≤ g)


set_option maxRecDepth 100000 in
set_option maxHeartbeats 2000000 in
theorem topAdd_there (tb pb mb k : Nat) (v : Value) (L : List Hv) (h : Hv) (hg : GoodH h) (hk : k ≤ 4096) (hm : h ∈ L) (w : World) (hB : w.heap[tb]? = some (.cells #[.int .i64 (k : Int), .pointer (some ⟨pb, 0, none⟩)] 93 (0, 0))) (hP : PileIs w pb mb v L) :
    Calls Tryd.prog 35 #[.pointer (some ⟨tb, 0, none⟩), h.val] w fun e w' => e = .returned (.bool true) ∧ Gr w w' := by
  have HG : Gr w (w.alloc (.cells #[.int .i64 h.d, .int .i64 h.i, .string h.c] 36)) := (Gr.refl w).alloc _
  have hP1 := hP.gr HG
  have b0 := World.alloc_heap_new w (.cells #[.int .i64 h.d, .int .i64 h.i, .string h.c] 36)
  have hB1 : (w.alloc (.cells #[.int .i64 h.d, .int .i64 h.i, .string h.c] 36)).heap[tb]? = _ := (HG.below.block tb (Array.getElem?_eq_some_iff.1 hB).1).trans hB
  clear hB hP
  simp only [Hv.val]
  go_enter Tryd.func35, Tryd.ntmps35
  go_wp2
  generalize w.alloc (.cells #[.int .i64 h.d, .int .i64 h.i, .string h.c] 36) = wb at hP1 b0 HG hB1 ⊢
  obtain ⟨c0, c1, c2, cf⟩ := hP1.cells
  obtain ⟨d0, d1⟩ := box2c hB1
  have k0 : wb.cell? ⟨w.heap.size, 0, none⟩ = some (.int .i64 h.d) := by simp [World.cell?, b0]
  have k1 : wb.cell? ⟨w.heap.size, 1, none⟩ = some (.int .i64 h.i) := by simp [World.cell?, b0]
  have k2 : wb.cell? ⟨w.heap.size, 2, none⟩ = some (.string h.c) := by simp [World.cell?, b0]
  have c2a : ∀ o, (wb.alloc o).cell? ⟨pb, 2, none⟩ = some (.map (some mb)) := fun o => (World.cell?_alloc_lt _ _ ⟨pb, 2, none⟩ (hP1.lt)).trans c2
  have d1a : ∀ o, (wb.alloc o).cell? ⟨tb, 1, none⟩ = some (.pointer (some ⟨pb, 0, none⟩)) := fun o => (World.cell?_alloc_lt _ _ ⟨tb, 1, none⟩ (cell_ltH d1)).trans d1
  have k0a : ∀ o, (wb.alloc o).cell? ⟨w.heap.size, 0, none⟩ = some (.int .i64 h.d) := fun o => (World.cell?_alloc_lt _ _ ⟨w.heap.size, 0, none⟩ (cell_ltH k0)).trans k0
  have k1a : ∀ o, (wb.alloc o).cell? ⟨w.heap.size, 1, none⟩ = some (.int .i64 h.i) := fun o => (World.cell?_alloc_lt _ _ ⟨w.heap.size, 1, none⟩ (cell_ltH k1)).trans k1
  have k2a : ∀ o, (wb.alloc o).cell? ⟨w.heap.size, 2, none⟩ = some (.string h.c) := fun o => (World.cell?_alloc_lt _ _ ⟨w.heap.size, 2, none⟩ (cell_ltH k2)).trans k2
  have l0 : (Instr.lookup 97 (.map (some mb)) (.agg #[.int .i64 h.d, .int .i64 h.i, .string h.c]) true).run Tryd.prog wb.drew = .ok (.tuple #[.agg #[], .bool true]) wb.drew := by
    have := (hP1.has.of (w' := wb.drew) rfl).look hg
    simp only [hm, decide_true] at this
    exact this
  have l1 : ∀ o, (Instr.lookup 97 (.map (some mb)) (.agg #[.int .i64 h.d, .int .i64 h.i, .string h.c]) true).run Tryd.prog (wb.alloc o).drew = .ok (.tuple #[.agg #[], .bool true]) (wb.alloc o).drew := fun o => by
    have := (hP1.has.of (w' := (wb.alloc o).drew) (Below.heap_alloc _ _ _ hP1.has.lt)).look hg
    simp only [hm, decide_true] at this
    exact this
  clear c0 c1 cf
  go_region
  all_goals go_wp2
  all_goals go_ret
  all_goals exact ⟨rfl, HG.trans (((Gr.refl _).alloc _).drew)⟩


set_option maxRecDepth 100000 in
set_option maxHeartbeats 2000000 in
theorem topAdd_zero (tb pb mb k : Nat) (v : Value) (L : List Hv) (h : Hv) (hg : GoodH h) (hk : k ≤ 4096) (hm : h ∉ L) (h0 : k = 0) (w : World) (hB : w.heap[tb]? = some (.cells #[.int .i64 (k : Int), .pointer (some ⟨pb, 0, none⟩)] 93 (0, 0))) (hP : PileIs w pb mb v L) :
    Calls Tryd.prog 35 #[.pointer (some ⟨tb, 0, none⟩), h.val] w fun e w' => e = .returned (.bool false) ∧ Gr w w' := by
  have HG : Gr w (w.alloc (.cells #[.int .i64 h.d, .int .i64 h.i, .string h.c] 36)) := (Gr.refl w).alloc _
  have hP1 := hP.gr HG
  have b0 := World.alloc_heap_new w (.cells #[.int .i64 h.d, .int .i64 h.i, .string h.c] 36)
  have hB1 : (w.alloc (.cells #[.int .i64 h.d, .int .i64 h.i, .string h.c] 36)).heap[tb]? = _ := (HG.below.block tb (Array.getElem?_eq_some_iff.1 hB).1).trans hB
  clear hB hP
  simp only [Hv.val]
  go_enter Tryd.func35, Tryd.ntmps35
  go_wp2
  generalize w.alloc (.cells #[.int .i64 h.d, .int .i64 h.i, .string h.c] 36) = wb at hP1 b0 HG hB1 ⊢
  obtain ⟨c0, c1, c2, cf⟩ := hP1.cells
  obtain ⟨d0, d1⟩ := box2c hB1
  have k0 : wb.cell? ⟨w.heap.size, 0, none⟩ = some (.int .i64 h.d) := by simp [World.cell?, b0]
  have k1 : wb.cell? ⟨w.heap.size, 1, none⟩ = some (.int .i64 h.i) := by simp [World.cell?, b0]
  have k2 : wb.cell? ⟨w.heap.size, 2, none⟩ = some (.string h.c) := by simp [World.cell?, b0]
  have c2a : ∀ o, (wb.alloc o).cell? ⟨pb, 2, none⟩ = some (.map (some mb)) := fun o => (World.cell?_alloc_lt _ _ ⟨pb, 2, none⟩ (hP1.lt)).trans c2
  have d1a : ∀ o, (wb.alloc o).cell? ⟨tb, 1, none⟩ = some (.pointer (some ⟨pb, 0, none⟩)) := fun o => (World.cell?_alloc_lt _ _ ⟨tb, 1, none⟩ (cell_ltH d1)).trans d1
  have k0a : ∀ o, (wb.alloc o).cell? ⟨w.heap.size, 0, none⟩ = some (.int .i64 h.d) := fun o => (World.cell?_alloc_lt _ _ ⟨w.heap.size, 0, none⟩ (cell_ltH k0)).trans k0
  have k1a : ∀ o, (wb.alloc o).cell? ⟨w.heap.size, 1, none⟩ = some (.int .i64 h.i) := fun o => (World.cell?_alloc_lt _ _ ⟨w.heap.size, 1, none⟩ (cell_ltH k1)).trans k1
  have k2a : ∀ o, (wb.alloc o).cell? ⟨w.heap.size, 2, none⟩ = some (.string h.c) := fun o => (World.cell?_alloc_lt _ _ ⟨w.heap.size, 2, none⟩ (cell_ltH k2)).trans k2
  have l0 : (Instr.lookup 97 (.map (some mb)) (.agg #[.int .i64 h.d, .int .i64 h.i, .string h.c]) true).run Tryd.prog wb.drew = .ok (.tuple #[.agg #[], .bool false]) wb.drew := by
    have := (hP1.has.of (w' := wb.drew) rfl).look hg
    simp only [hm, decide_false] at this
    exact this
  have l1 : ∀ o, (Instr.lookup 97 (.map (some mb)) (.agg #[.int .i64 h.d, .int .i64 h.i, .string h.c]) true).run Tryd.prog (wb.alloc o).drew = .ok (.tuple #[.agg #[], .bool false]) (wb.alloc o).drew := fun o => by
    have := (hP1.has.of (w' := (wb.alloc o).drew) (Below.heap_alloc _ _ _ hP1.has.lt)).look hg
    simp only [hm, decide_false] at this
    exact this
  clear c0 c1 cf
  go_region
  obtain ⟨W1, hW1⟩ : ∃ W, (wb.alloc (.cells #[] 94)).drew = W := ⟨_, rfl⟩
  have HG1 : Gr w W1 := by rw [← hW1]; exact HG.trans (((Gr.refl wb).alloc _).drew)
  have HG2 : Gr wb W1 := by rw [← hW1]; exact ((Gr.refl wb).alloc _).drew
  have hP2 := hP1.gr HG2
  have b1 : W1.heap[w.heap.size]? = some (.cells #[.int .i64 h.d, .int .i64 h.i, .string h.c] 36 (0, 0)) := (HG2.below.block _ (Array.getElem?_eq_some_iff.1 b0).1).trans b0
  have hB2 := (HG2.below.block tb (Array.getElem?_eq_some_iff.1 hB1).1).trans hB1
  rw [hW1]
  clear l0 l1 k0 k1 k2 k0a k1a k2a c2 c2a d0 d1 d1a hP1 hW1 HG HG2 hB1 b0
  obtain ⟨c0, c1, c2, cf⟩ := hP2.cells
  obtain ⟨d0, d1⟩ := box2c hB2
  have k0 : W1.cell? ⟨w.heap.size, 0, none⟩ = some (.int .i64 h.d) := by simp [World.cell?, b1]
  have k1 : W1.cell? ⟨w.heap.size, 1, none⟩ = some (.int .i64 h.i) := by simp [World.cell?, b1]
  have k2 : W1.cell? ⟨w.heap.size, 2, none⟩ = some (.string h.c) := by simp [World.cell?, b1]
  obtain ⟨pv, capv, rfl, _⟩ := own_rd hP2.row
  subst h0
  clear c1 cf c2 hP2
  go_wp2
  go_quiet (fail)
  go_wp2
  go_ret
  exact ⟨rfl, HG1.trans ((Gr.refl _).drewN _)⟩


set_option maxRecDepth 100000 in
set_option maxHeartbeats 2000000 in
theorem topAdd_behind (tb pb mb k : Nat) (v : Value) (L : List Hv) (h : Hv) (hg : GoodH h) (hk : k ≤ 4096) (hm : h ∉ L) (h0 : 0 < k) (hk0 : k = L.length) (hl : hless (hd L 0) h) (w : World) (hB : w.heap[tb]? = some (.cells #[.int .i64 (k : Int), .pointer (some ⟨pb, 0, none⟩)] 93 (0, 0))) (hP : PileIs w pb mb v L) :
    Calls Tryd.prog 35 #[.pointer (some ⟨tb, 0, none⟩), h.val] w fun e w' => e = .returned (.bool false) ∧ Gr w w' := by
  have HG : Gr w (w.alloc (.cells #[.int .i64 h.d, .int .i64 h.i, .string h.c] 36)) := (Gr.refl w).alloc _
  have hP1 := hP.gr HG
  have b0 := World.alloc_heap_new w (.cells #[.int .i64 h.d, .int .i64 h.i, .string h.c] 36)
  have hB1 : (w.alloc (.cells #[.int .i64 h.d, .int .i64 h.i, .string h.c] 36)).heap[tb]? = _ := (HG.below.block tb (Array.getElem?_eq_some_iff.1 hB).1).trans hB
  clear hB hP
  simp only [Hv.val]
  go_enter Tryd.func35, Tryd.ntmps35
  go_wp2
  generalize w.alloc (.cells #[.int .i64 h.d, .int .i64 h.i, .string h.c] 36) = wb at hP1 b0 HG hB1 ⊢
  obtain ⟨c0, c1, c2, cf⟩ := hP1.cells
  obtain ⟨d0, d1⟩ := box2c hB1
  have k0 : wb.cell? ⟨w.heap.size, 0, none⟩ = some (.int .i64 h.d) := by simp [World.cell?, b0]
  have k1 : wb.cell? ⟨w.heap.size, 1, none⟩ = some (.int .i64 h.i) := by simp [World.cell?, b0]
  have k2 : wb.cell? ⟨w.heap.size, 2, none⟩ = some (.string h.c) := by simp [World.cell?, b0]
  have c2a : ∀ o, (wb.alloc o).cell? ⟨pb, 2, none⟩ = some (.map (some mb)) := fun o => (World.cell?_alloc_lt _ _ ⟨pb, 2, none⟩ (hP1.lt)).trans c2
  have d1a : ∀ o, (wb.alloc o).cell? ⟨tb, 1, none⟩ = some (.pointer (some ⟨pb, 0, none⟩)) := fun o => (World.cell?_alloc_lt _ _ ⟨tb, 1, none⟩ (cell_ltH d1)).trans d1
  have k0a : ∀ o, (wb.alloc o).cell? ⟨w.heap.size, 0, none⟩ = some (.int .i64 h.d) := fun o => (World.cell?_alloc_lt _ _ ⟨w.heap.size, 0, none⟩ (cell_ltH k0)).trans k0
  have k1a : ∀ o, (wb.alloc o).cell? ⟨w.heap.size, 1, none⟩ = some (.int .i64 h.i) := fun o => (World.cell?_alloc_lt _ _ ⟨w.heap.size, 1, none⟩ (cell_ltH k1)).trans k1
  have k2a : ∀ o, (wb.alloc o).cell? ⟨w.heap.size, 2, none⟩ = some (.string h.c) := fun o => (World.cell?_alloc_lt _ _ ⟨w.heap.size, 2, none⟩ (cell_ltH k2)).trans k2
  have l0 : (Instr.lookup 97 (.map (some mb)) (.agg #[.int .i64 h.d, .int .i64 h.i, .string h.c]) true).run Tryd.prog wb.drew = .ok (.tuple #[.agg #[], .bool false]) wb.drew := by
    have := (hP1.has.of (w' := wb.drew) rfl).look hg
    simp only [hm, decide_false] at this
    exact this
  have l1 : ∀ o, (Instr.lookup 97 (.map (some mb)) (.agg #[.int .i64 h.d, .int .i64 h.i, .string h.c]) true).run Tryd.prog (wb.alloc o).drew = .ok (.tuple #[.agg #[], .bool false]) (wb.alloc o).drew := fun o => by
    have := (hP1.has.of (w' := (wb.alloc o).drew) (Below.heap_alloc _ _ _ hP1.has.lt)).look hg
    simp only [hm, decide_false] at this
    exact this
  clear c0 c1 cf
  go_region
  obtain ⟨W1, hW1⟩ : ∃ W, (wb.alloc (.cells #[] 94)).drew = W := ⟨_, rfl⟩
  have HG1 : Gr w W1 := by rw [← hW1]; exact HG.trans (((Gr.refl wb).alloc _).drew)
  have HG2 : Gr wb W1 := by rw [← hW1]; exact ((Gr.refl wb).alloc _).drew
  have hP2 := hP1.gr HG2
  have b1 : W1.heap[w.heap.size]? = some (.cells #[.int .i64 h.d, .int .i64 h.i, .string h.c] 36 (0, 0)) := (HG2.below.block _ (Array.getElem?_eq_some_iff.1 b0).1).trans b0
  have hB2 := (HG2.below.block tb (Array.getElem?_eq_some_iff.1 hB1).1).trans hB1
  rw [hW1]
  clear l0 l1 k0 k1 k2 k0a k1a k2a c2 c2a d0 d1 d1a hP1 hW1 HG HG2 hB1 b0
  obtain ⟨c0, c1, c2, cf⟩ := hP2.cells
  obtain ⟨d0, d1⟩ := box2c hB2
  have k0 : W1.cell? ⟨w.heap.size, 0, none⟩ = some (.int .i64 h.d) := by simp [World.cell?, b1]
  have k1 : W1.cell? ⟨w.heap.size, 1, none⟩ = some (.int .i64 h.i) := by simp [World.cell?, b1]
  have k2 : W1.cell? ⟨w.heap.size, 2, none⟩ = some (.string h.c) := by simp [World.cell?, b1]
  obtain ⟨pv, capv, rfl, _⟩ := own_rd hP2.row
  obtain ⟨g0, cap0, hve, x0, x1, x2⟩ := hP2.at (j := 0) (by omega)
  obtain ⟨rfl, rfl⟩ : pv = some ⟨g0, 0, none⟩ ∧ capv = cap0 := by simpa using hve
  simp only [Nat.zero_mul, Nat.zero_add] at x0 x1 x2
  have C := fun W => order_calls h (hd L 0) W
  rw [ordH_gt hl] at C
  simp only [Hv.val] at C
  have HC := Lib.hid C
  have z1 : (L.length : Int) = (k : Int) := by omega
  have z2 : ((k : Int) == 0) = false := by simp; omega
  have z3 : (0 : Int) < (k : Int) := by omega
  subst hk0
  clear C hve
  clear hP2 c1 c2 cf
  go_wp2
  go_still_tail 30, (by kernel_rfl)
  change wpList _ _ _ _ _ W1.drew
  go_wp2_with fail
  refine (HC.out _).mono ?_
  rintro e w3 ⟨rfl, hgr3⟩
  go_wp2
  go_ret
  exact ⟨rfl, HG1.trans (((Gr.refl W1).drew).trans hgr3)⟩


set_option maxRecDepth 100000 in
set_option maxHeartbeats 2000000 in
theorem topAdd_full (tb pb mb k : Nat) (v : Value) (L : List Hv) (h : Hv) (hg : GoodH h) (hk : k ≤ 4096) (hm : h ∉ L) (h0 : 0 < k) (hk0 : k = L.length) (hl : hless h (hd L 0)) (hH : HeapH L) (hn : (L.length + 1) * 32 ≤ 140737488355328) (w : World) (hB : w.heap[tb]? = some (.cells #[.int .i64 (k : Int), .pointer (some ⟨pb, 0, none⟩)] 93 (0, 0))) (hP : PileIs w pb mb v L) :
    Calls Tryd.prog 35 #[.pointer (some ⟨tb, 0, none⟩), h.val] w (AddPost w tb pb mb #[.int .i64 (k : Int), .pointer (some ⟨pb, 0, none⟩)] 93 v (fun X => ∃ M, HeapH M ∧ M.Perm (h :: L) ∧ X.Perm (dropT M))) := by
  have HG : Gr w (w.alloc (.cells #[.int .i64 h.d, .int .i64 h.i, .string h.c] 36)) := (Gr.refl w).alloc _
  have hP1 := hP.gr HG
  have b0 := World.alloc_heap_new w (.cells #[.int .i64 h.d, .int .i64 h.i, .string h.c] 36)
  have hB1 : (w.alloc (.cells #[.int .i64 h.d, .int .i64 h.i, .string h.c] 36)).heap[tb]? = _ := (HG.below.block tb (Array.getElem?_eq_some_iff.1 hB).1).trans hB
  clear hB hP
  simp only [Hv.val]
  go_enter Tryd.func35, Tryd.ntmps35
  go_wp2
  generalize w.alloc (.cells #[.int .i64 h.d, .int .i64 h.i, .string h.c] 36) = wb at hP1 b0 HG hB1 ⊢
  obtain ⟨c0, c1, c2, cf⟩ := hP1.cells
  obtain ⟨d0, d1⟩ := box2c hB1
  have k0 : wb.cell? ⟨w.heap.size, 0, none⟩ = some (.int .i64 h.d) := by simp [World.cell?, b0]
  have k1 : wb.cell? ⟨w.heap.size, 1, none⟩ = some (.int .i64 h.i) := by simp [World.cell?, b0]
  have k2 : wb.cell? ⟨w.heap.size, 2, none⟩ = some (.string h.c) := by simp [World.cell?, b0]
  have c2a : ∀ o, (wb.alloc o).cell? ⟨pb, 2, none⟩ = some (.map (some mb)) := fun o => (World.cell?_alloc_lt _ _ ⟨pb, 2, none⟩ (hP1.lt)).trans c2
  have d1a : ∀ o, (wb.alloc o).cell? ⟨tb, 1, none⟩ = some (.pointer (some ⟨pb, 0, none⟩)) := fun o => (World.cell?_alloc_lt _ _ ⟨tb, 1, none⟩ (cell_ltH d1)).trans d1
  have k0a : ∀ o, (wb.alloc o).cell? ⟨w.heap.size, 0, none⟩ = some (.int .i64 h.d) := fun o => (World.cell?_alloc_lt _ _ ⟨w.heap.size, 0, none⟩ (cell_ltH k0)).trans k0
  have k1a : ∀ o, (wb.alloc o).cell? ⟨w.heap.size, 1, none⟩ = some (.int .i64 h.i) := fun o => (World.cell?_alloc_lt _ _ ⟨w.heap.size, 1, none⟩ (cell_ltH k1)).trans k1
  have k2a : ∀ o, (wb.alloc o).cell? ⟨w.heap.size, 2, none⟩ = some (.string h.c) := fun o => (World.cell?_alloc_lt _ _ ⟨w.heap.size, 2, none⟩ (cell_ltH k2)).trans k2
  have l0 : (Instr.lookup 97 (.map (some mb)) (.agg #[.int .i64 h.d, .int .i64 h.i, .string h.c]) true).run Tryd.prog wb.drew = .ok (.tuple #[.agg #[], .bool false]) wb.drew := by
    have := (hP1.has.of (w' := wb.drew) rfl).look hg
    simp only [hm, decide_false] at this
    exact this
  have l1 : ∀ o, (Instr.lookup 97 (.map (some mb)) (.agg #[.int .i64 h.d, .int .i64 h.i, .string h.c]) true).run Tryd.prog (wb.alloc o).drew = .ok (.tuple #[.agg #[], .bool false]) (wb.alloc o).drew := fun o => by
    have := (hP1.has.of (w' := (wb.alloc o).drew) (Below.heap_alloc _ _ _ hP1.has.lt)).look hg
    simp only [hm, decide_false] at this
    exact this
  clear c0 c1 cf
  go_region
  have HH := Lib.hid hH
  clear hH
  obtain ⟨W1, hW1⟩ : ∃ W, (wb.alloc (.cells #[] 94)).drew = W := ⟨_, rfl⟩
  have HG1 : Gr w W1 := by rw [← hW1]; exact HG.trans (((Gr.refl wb).alloc _).drew)
  have HG2 : Gr wb W1 := by rw [← hW1]; exact ((Gr.refl wb).alloc _).drew
  have hP2 := hP1.gr HG2
  have b1 : W1.heap[w.heap.size]? = some (.cells #[.int .i64 h.d, .int .i64 h.i, .string h.c] 36 (0, 0)) := (HG2.below.block _ (Array.getElem?_eq_some_iff.1 b0).1).trans b0
  have hB2 := (HG2.below.block tb (Array.getElem?_eq_some_iff.1 hB1).1).trans hB1
  rw [hW1]
  clear l0 l1 k0 k1 k2 k0a k1a k2a c2 c2a d0 d1 d1a hP1 hW1 HG HG2 hB1 b0
  obtain ⟨c0, c1, c2, cf⟩ := hP2.cells
  obtain ⟨d0, d1⟩ := box2c hB2
  have k0 : W1.cell? ⟨w.heap.size, 0, none⟩ = some (.int .i64 h.d) := by simp [World.cell?, b1]
  have k1 : W1.cell? ⟨w.heap.size, 1, none⟩ = some (.int .i64 h.i) := by simp [World.cell?, b1]
  have k2 : W1.cell? ⟨w.heap.size, 2, none⟩ = some (.string h.c) := by simp [World.cell?, b1]
  obtain ⟨pv, capv, rfl, _⟩ := own_rd hP2.row
  obtain ⟨g0, cap0, hve, x0, x1, x2⟩ := hP2.at (j := 0) (by omega)
  obtain ⟨rfl, rfl⟩ : pv = some ⟨g0, 0, none⟩ ∧ capv = cap0 := by simpa using hve
  simp only [Nat.zero_mul, Nat.zero_add] at x0 x1 x2
  have C := fun W => order_calls h (hd L 0) W
  rw [ordH_lt hl] at C
  simp only [Hv.val] at C
  have HC := Lib.hid C
  have z1 : (L.length : Int) = (k : Int) := by omega
  have z2 : ((k : Int) == 0) = false := by simp; omega
  have z3 : (0 : Int) < (k : Int) := by omega
  subst hk0
  clear C hve
  have HPt := Lib.hid (fun W => put_new pb mb (.slice (some ⟨g0, 0, none⟩) L.length capv) L h hg hm HH.out hn W)
  obtain ⟨ap1, ap2, ap3⟩ := box_apart hB2 hP2 (by decide) (by decide)
  have HB2 := Lib.hid hB2
  have HP2 := Lib.hid hP2
  have HB1 := Lib.hid b1
  clear hB2 hP2 b1
  clear c1 c2 cf
  go_wp2
  go_still_tail 30, (by kernel_rfl)
  change wpList _ _ _ _ _ W1.drew
  go_wp2_with fail
  refine (HC.out _).mono ?_
  rintro e W3 ⟨rfl, hgr3⟩
  have hG3 : Gr W1 W3 := ((Gr.refl W1).drew).trans hgr3
  have hP3 := HP2.out.gr hG3
  have hB3 := (hG3.below.block tb (Array.getElem?_eq_some_iff.1 HB2.out).1).trans HB2.out
  have b3 := (hG3.below.block _ (Array.getElem?_eq_some_iff.1 HB1.out).1).trans HB1.out
  clear c0 k0 k1 k2 d0 d1 x0 x1 x2 hgr3
  obtain ⟨e0, e1⟩ := box2c hB3
  have m0 : W3.cell? ⟨w.heap.size, 0, none⟩ = some (.int .i64 h.d) := by simp [World.cell?, b3]
  have m1 : W3.cell? ⟨w.heap.size, 1, none⟩ = some (.int .i64 h.i) := by simp [World.cell?, b3]
  have m2 : W3.cell? ⟨w.heap.size, 2, none⟩ = some (.string h.c) := by simp [World.cell?, b3]
  go_wp2
  go_still_tail 5, (by kernel_rfl)
  change wpList _ _ _ _ _ W3.drew
  go_wp2_with fail
  refine (HPt.out _ (hP3.gr ((Gr.refl W3).drew))).mono ?_
  rintro e W4 ⟨rfl, v4, L4, hP4, hH4, hp4, hF4, hO4⟩
  rw [if_neg hm] at hp4
  have hl4 : L4.length = L.length + 1 := by rw [hp4.length_eq]; rfl
  have hB4 := (hF4.2.2.2.2 tb (Array.getElem?_eq_some_iff.1 hB3).1 (by simp; exact ⟨ap1, ap2, fun e => ap3 e.symm⟩)).trans hB3
  have hF0 : Fr w W4 [some pb, some mb, (.slice (some ⟨g0, 0, none⟩) L.length capv : Value).ownBlock] := (Fr.of_gr (HG1.trans hG3) _).trans hF4
  have hO0 : v4.ownBlock = (.slice (some ⟨g0, 0, none⟩) L.length capv : Value).ownBlock ∨ ∃ g, v4.ownBlock = some g ∧ w.heap.size ≤ g := hO4.imp id (fun ⟨g, a, b⟩ => ⟨g, a, Nat.le_trans (HG1.trans hG3).below.size b⟩)
  clear e0 e1 m0 m1 m2 b3 hB3 hP3 hF4 hO4
  obtain ⟨q0, q1, q2, qf⟩ := hP4.cells
  obtain ⟨e0, e1⟩ := box2c hB4
  obtain ⟨p4, cap4, rfl, _⟩ := own_rd hP4.row
  clear q1 q2 qf
  have y1 : (L.length : Int) < (L4.length : Int) := by omega
  have hDr := Lib.hid (drop_calls pb mb (.slice p4 L4.length cap4) L4 (by omega) (by omega) hH4)
  have HP4 := Lib.hid hP4
  have HH4 := Lib.hid hH4
  have HB4 := Lib.hid hB4
  clear hP4 hH4 hB4
  go_wp2
  go_quiet (fail)
  go_wp2_with fail
  refine (hDr.out _ (HP4.out.gr ((Gr.refl W4).drewN _))).mono ?_
  rintro e W5 ⟨rfl, v5, L5, hP5, hH5, hp5, hF5, hO5⟩
  have hB5 := (hF5.2.2.2.2 tb (Array.getElem?_eq_some_iff.1 HB4.out).1 (by
    have hne : (Value.slice p4 L4.length cap4).ownBlock ≠ some tb := by
      obtain ⟨_, _, z⟩ := box_apart HB4.out HP4.out (by decide) (by decide)
      exact z
    simp; exact ⟨ap1, ap2, fun e => hne e.symm⟩)).trans HB4.out
  have hF6 : Fr w W5 [some pb, some mb, (Value.slice (some ⟨g0, 0, none⟩) L.length capv).ownBlock] := (hF0.trans (Fr.of_gr ((Gr.refl W4).drewN _) _)).trans' hF5 (fun x hx hlt => by
    simp only [List.mem_cons, List.not_mem_nil, or_false] at hx ⊢
    rcases hx with hx | hx | hx
    · exact .inl hx
    · exact .inr (.inl hx)
    · rcases hO0 with e | ⟨g, e, hge⟩
      · exact .inr (.inr (hx.trans e))
      · rw [e] at hx
        have := Option.some.inj hx
        omega)
  clear q0 e0 e1
  go_wp2
  go_ret
  exact ⟨rfl, v5, L5, hB5, hP5, hH5, ⟨L4, HH4.out, hp4, hp5⟩, hF6, by rw [hO5]; exact hO0⟩


set_option maxRecDepth 100000 in
set_option maxHeartbeats 2000000 in
theorem topAdd_room (tb pb mb k : Nat) (v : Value) (L : List Hv) (h : Hv) (hg : GoodH h) (hk : k ≤ 4096) (hm : h ∉ L) (hk0 : L.length < k) (hH : HeapH L) (hn : (L.length + 1) * 32 ≤ 140737488355328) (w : World) (hB : w.heap[tb]? = some (.cells #[.int .i64 (k : Int), .pointer (some ⟨pb, 0, none⟩)] 93 (0, 0))) (hP : PileIs w pb mb v L) :
    Calls Tryd.prog 35 #[.pointer (some ⟨tb, 0, none⟩), h.val] w (AddPost w tb pb mb #[.int .i64 (k : Int), .pointer (some ⟨pb, 0, none⟩)] 93 v (fun X => X.Perm (h :: L))) := by
  have HG : Gr w (w.alloc (.cells #[.int .i64 h.d, .int .i64 h.i, .string h.c] 36)) := (Gr.refl w).alloc _
  have hP1 := hP.gr HG
  have b0 := World.alloc_heap_new w (.cells #[.int .i64 h.d, .int .i64 h.i, .string h.c] 36)
  have hB1 : (w.alloc (.cells #[.int .i64 h.d, .int .i64 h.i, .string h.c] 36)).heap[tb]? = _ := (HG.below.block tb (Array.getElem?_eq_some_iff.1 hB).1).trans hB
  clear hB hP
  simp only [Hv.val]
  go_enter Tryd.func35, Tryd.ntmps35
  go_wp2
  generalize w.alloc (.cells #[.int .i64 h.d, .int .i64 h.i, .string h.c] 36) = wb at hP1 b0 HG hB1 ⊢
  obtain ⟨c0, c1, c2, cf⟩ := hP1.cells
  obtain ⟨d0, d1⟩ := box2c hB1
  have k0 : wb.cell? ⟨w.heap.size, 0, none⟩ = some (.int .i64 h.d) := by simp [World.cell?, b0]
  have k1 : wb.cell? ⟨w.heap.size, 1, none⟩ = some (.int .i64 h.i) := by simp [World.cell?, b0]
  have k2 : wb.cell? ⟨w.heap.size, 2, none⟩ = some (.string h.c) := by simp [World.cell?, b0]
  have c2a : ∀ o, (wb.alloc o).cell? ⟨pb, 2, none⟩ = some (.map (some mb)) := fun o => (World.cell?_alloc_lt _ _ ⟨pb, 2, none⟩ (hP1.lt)).trans c2
  have d1a : ∀ o, (wb.alloc o).cell? ⟨tb, 1, none⟩ = some (.pointer (some ⟨pb, 0, none⟩)) := fun o => (World.cell?_alloc_lt _ _ ⟨tb, 1, none⟩ (cell_ltH d1)).trans d1
  have k0a : ∀ o, (wb.alloc o).cell? ⟨w.heap.size, 0, none⟩ = some (.int .i64 h.d) := fun o => (World.cell?_alloc_lt _ _ ⟨w.heap.size, 0, none⟩ (cell_ltH k0)).trans k0
  have k1a : ∀ o, (wb.alloc o).cell? ⟨w.heap.size, 1, none⟩ = some (.int .i64 h.i) := fun o => (World.cell?_alloc_lt _ _ ⟨w.heap.size, 1, none⟩ (cell_ltH k1)).trans k1
  have k2a : ∀ o, (wb.alloc o).cell? ⟨w.heap.size, 2, none⟩ = some (.string h.c) := fun o => (World.cell?_alloc_lt _ _ ⟨w.heap.size, 2, none⟩ (cell_ltH k2)).trans k2
  have l0 : (Instr.lookup 97 (.map (some mb)) (.agg #[.int .i64 h.d, .int .i64 h.i, .string h.c]) true).run Tryd.prog wb.drew = .ok (.tuple #[.agg #[], .bool false]) wb.drew := by
    have := (hP1.has.of (w' := wb.drew) rfl).look hg
    simp only [hm, decide_false] at this
    exact this
  have l1 : ∀ o, (Instr.lookup 97 (.map (some mb)) (.agg #[.int .i64 h.d, .int .i64 h.i, .string h.c]) true).run Tryd.prog (wb.alloc o).drew = .ok (.tuple #[.agg #[], .bool false]) (wb.alloc o).drew := fun o => by
    have := (hP1.has.of (w' := (wb.alloc o).drew) (Below.heap_alloc _ _ _ hP1.has.lt)).look hg
    simp only [hm, decide_false] at this
    exact this
  clear c0 c1 cf
  go_region
  have HH := Lib.hid hH
  clear hH
  obtain ⟨W1, hW1⟩ : ∃ W, (wb.alloc (.cells #[] 94)).drew = W := ⟨_, rfl⟩
  have HG1 : Gr w W1 := by rw [← hW1]; exact HG.trans (((Gr.refl wb).alloc _).drew)
  have HG2 : Gr wb W1 := by rw [← hW1]; exact ((Gr.refl wb).alloc _).drew
  have hP2 := hP1.gr HG2
  have b1 : W1.heap[w.heap.size]? = some (.cells #[.int .i64 h.d, .int .i64 h.i, .string h.c] 36 (0, 0)) := (HG2.below.block _ (Array.getElem?_eq_some_iff.1 b0).1).trans b0
  have hB2 := (HG2.below.block tb (Array.getElem?_eq_some_iff.1 hB1).1).trans hB1
  rw [hW1]
  clear l0 l1 k0 k1 k2 k0a k1a k2a c2 c2a d0 d1 d1a hP1 hW1 HG HG2 hB1 b0
  obtain ⟨c0, c1, c2, cf⟩ := hP2.cells
  obtain ⟨d0, d1⟩ := box2c hB2
  have k0 : W1.cell? ⟨w.heap.size, 0, none⟩ = some (.int .i64 h.d) := by simp [World.cell?, b1]
  have k1 : W1.cell? ⟨w.heap.size, 1, none⟩ = some (.int .i64 h.i) := by simp [World.cell?, b1]
  have k2 : W1.cell? ⟨w.heap.size, 2, none⟩ = some (.string h.c) := by simp [World.cell?, b1]
  obtain ⟨pv, capv, rfl, _⟩ := own_rd hP2.row
  have HPt := Lib.hid (fun W => put_new pb mb (.slice pv L.length capv) L h hg hm HH.out hn W)
  obtain ⟨ap1, ap2, ap3⟩ := box_apart hB2 hP2 (by decide) (by decide)
  have HB2 := Lib.hid hB2
  have HP2 := Lib.hid hP2
  have HB1 := Lib.hid b1
  clear hB2 hP2 b1
  have z2 : ((k : Int) == 0) = false := by simp; omega
  have z3 : (0 : Int) < (k : Int) := by omega
  have z4 : ((L.length : Int) == (k : Int)) = false := by simp; omega
  clear c1 c2 cf
  go_wp2
  go_quiet (fail)
  obtain ⟨W3, hW3⟩ : ∃ W, W1.drewN nq = W := ⟨_, rfl⟩
  have hG3 : Gr W1 W3 := by rw [← hW3]; exact (Gr.refl W1).drewN _
  rw [hW3]
  have hP3 := HP2.out.gr hG3
  have hB3 := (hG3.below.block tb (Array.getElem?_eq_some_iff.1 HB2.out).1).trans HB2.out
  have b3 := (hG3.below.block _ (Array.getElem?_eq_some_iff.1 HB1.out).1).trans HB1.out
  clear c0 k0 k1 k2 d0 d1 hW3
  obtain ⟨e0, e1⟩ := box2c hB3
  have m0 : W3.cell? ⟨w.heap.size, 0, none⟩ = some (.int .i64 h.d) := by simp [World.cell?, b3]
  have m1 : W3.cell? ⟨w.heap.size, 1, none⟩ = some (.int .i64 h.i) := by simp [World.cell?, b3]
  have m2 : W3.cell? ⟨w.heap.size, 2, none⟩ = some (.string h.c) := by simp [World.cell?, b3]
  go_wp2
  go_still_tail 5, (by kernel_rfl)
  change wpList _ _ _ _ _ W3.drew
  go_wp2_with fail
  refine (HPt.out _ (hP3.gr ((Gr.refl W3).drew))).mono ?_
  rintro e W4 ⟨rfl, v4, L4, hP4, hH4, hp4, hF4, hO4⟩
  rw [if_neg hm] at hp4
  have hl4 : L4.length = L.length + 1 := by rw [hp4.length_eq]; rfl
  have hB4 := (hF4.2.2.2.2 tb (Array.getElem?_eq_some_iff.1 hB3).1 (by simp; exact ⟨ap1, ap2, fun e => ap3 e.symm⟩)).trans hB3
  have hF0 : Fr w W4 [some pb, some mb, (.slice pv L.length capv : Value).ownBlock] := (Fr.of_gr (HG1.trans hG3) _).trans hF4
  have hO0 : v4.ownBlock = (.slice pv L.length capv : Value).ownBlock ∨ ∃ g, v4.ownBlock = some g ∧ w.heap.size ≤ g := hO4.imp id (fun ⟨g, a, b⟩ => ⟨g, a, Nat.le_trans (HG1.trans hG3).below.size b⟩)
  clear e0 e1 m0 m1 m2 b3 hB3 hP3 hF4 hO4
  obtain ⟨q0, q1, q2, qf⟩ := hP4.cells
  obtain ⟨e0, e1⟩ := box2c hB4
  obtain ⟨p4, cap4, rfl, _⟩ := own_rd hP4.row
  clear q1 q2 qf
  have y1 : decide ((k : Int) < (L4.length : Int)) = false := by simp; omega
  have y2 : decide (k < L4.length) = false := by simp; omega
  have HP4 := Lib.hid hP4
  have HH4 := Lib.hid hH4
  have HB4 := Lib.hid hB4
  clear hP4 hH4 hB4
  go_wp2
  go_quiet (fail)
  go_wp2
  go_ret
  exact ⟨rfl, _, L4, HB4.out, HP4.out.gr ((Gr.refl W4).drewN _), HH4.out, hp4, hF0.trans (Fr.of_gr ((Gr.refl W4).drewN _) _), hO0⟩

end Go.Proofs.YtmfanldekjkbiaaDoor

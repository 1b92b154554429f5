/-
  WALKS: the program's Ask, one walk per kind of operation. (Printed by askwgen.py.)
-/
import Derived.Test.YtabhjkaheghbhaaAskW
import Derived.Deep.DeepCutAuto
namespace Go.Proofs.Ytabhjkaheghbhaa
open Go.RowKit
set_option linter.unusedVariables false

theorem laid2 (w w1 w3 : World) (op id : Int) (c : ByteArray) (k rr : Int) (hq : Rq w1 w.heap.size op id c k rr) (hb : Below w.heap.size w w1) (hsz : w.heap.size < w1.heap.size)
    (k3 : Below (w1.alloc (.cells #[.nilFunc, .nilFunc, .nilFunc, .nilFunc, .nilFunc, .nilFunc] 67)).drew.heap.size (w1.alloc (.cells #[.nilFunc, .nilFunc, .nilFunc, .nilFunc, .nilFunc, .nilFunc] 67)).drew w3) :
    Rq w3 w.heap.size op id c k rr ∧ Below w.heap.size w w3 ∧ w3.heap[w1.heap.size]? = some (.cells #[.nilFunc, .nilFunc, .nilFunc, .nilFunc, .nilFunc, .nilFunc] 67 (0, 0)) ∧ (∀ j, w3.frozen? ⟨w1.heap.size, j, none⟩ = false) ∧
    w3.cell? ⟨w1.heap.size, 0, none⟩ = some .nilFunc ∧ w3.cell? ⟨w1.heap.size, 1, none⟩ = some .nilFunc ∧ w3.cell? ⟨w1.heap.size, 2, none⟩ = some .nilFunc ∧ w3.cell? ⟨w1.heap.size, 3, none⟩ = some .nilFunc ∧ w3.cell? ⟨w1.heap.size, 4, none⟩ = some .nilFunc ∧ w3.cell? ⟨w1.heap.size, 5, none⟩ = some .nilFunc ∧
    ∀ v0 v1 v2 v3 v4 v5, ((((((w3.setCell ⟨w1.heap.size, 0, none⟩ v0).setCell ⟨w1.heap.size, 1, none⟩ v1).setCell ⟨w1.heap.size, 2, none⟩ v2).setCell ⟨w1.heap.size, 3, none⟩ v3).setCell ⟨w1.heap.size, 4, none⟩ v4).setCell ⟨w1.heap.size, 5, none⟩ v5).cell? ⟨w.heap.size, 0, none⟩ = some (.int .i64 op) ∧
      ((((((w3.setCell ⟨w1.heap.size, 0, none⟩ v0).setCell ⟨w1.heap.size, 1, none⟩ v1).setCell ⟨w1.heap.size, 2, none⟩ v2).setCell ⟨w1.heap.size, 3, none⟩ v3).setCell ⟨w1.heap.size, 4, none⟩ v4).setCell ⟨w1.heap.size, 5, none⟩ v5).heap[w1.heap.size]? = some (.cells #[v0, v1, v2, v3, v4, v5] 67 (0, 0)) ∧ Rq ((((((w3.setCell ⟨w1.heap.size, 0, none⟩ v0).setCell ⟨w1.heap.size, 1, none⟩ v1).setCell ⟨w1.heap.size, 2, none⟩ v2).setCell ⟨w1.heap.size, 3, none⟩ v3).setCell ⟨w1.heap.size, 4, none⟩ v4).setCell ⟨w1.heap.size, 5, none⟩ v5) w.heap.size op id c k rr ∧ Below w.heap.size w ((((((w3.setCell ⟨w1.heap.size, 0, none⟩ v0).setCell ⟨w1.heap.size, 1, none⟩ v1).setCell ⟨w1.heap.size, 2, none⟩ v2).setCell ⟨w1.heap.size, 3, none⟩ v3).setCell ⟨w1.heap.size, 4, none⟩ v4).setCell ⟨w1.heap.size, 5, none⟩ v5) := by
  have hz : (w1.alloc (.cells #[.nilFunc, .nilFunc, .nilFunc, .nilFunc, .nilFunc, .nilFunc] 67)).drew.heap.size = w1.heap.size + 1 := World.size_alloc _ _
  rw [hz] at k3
  have Q3 : Rq w3 w.heap.size op id c k rr := (hq.alloc _).of (k3.block _ (by omega))
  have T3 : w3.heap[w1.heap.size]? = some (.cells #[.nilFunc, .nilFunc, .nilFunc, .nilFunc, .nilFunc, .nilFunc] 67 (0, 0)) := (k3.block _ (by omega)).trans (heap_alloc_last w1 _)
  have B3 : Below w.heap.size w w3 := (hb.alloc (Nat.le_of_lt hsz) _).drew.trans (k3.mono (by omega))
  refine ⟨Q3, B3, T3, fun j => by simp [World.frozen?, T3], by simp [World.cell?, T3], by simp [World.cell?, T3], by simp [World.cell?, T3], by simp [World.cell?, T3], by simp [World.cell?, T3], by simp [World.cell?, T3], ?_⟩
  intro v0 v1 v2 v3 v4 v5
  have ne : w.heap.size ≠ w1.heap.size := by omega
  have RR := Rq.of (Rq.of (Rq.of (Rq.of (Rq.of (Rq.of Q3 (Below.heap_setCell w3 ⟨w1.heap.size, 0, none⟩ v0 _ ne)) (Below.heap_setCell _ ⟨w1.heap.size, 1, none⟩ v1 _ ne)) (Below.heap_setCell _ ⟨w1.heap.size, 2, none⟩ v2 _ ne)) (Below.heap_setCell _ ⟨w1.heap.size, 3, none⟩ v3 _ ne)) (Below.heap_setCell _ ⟨w1.heap.size, 4, none⟩ v4 _ ne)) (Below.heap_setCell _ ⟨w1.heap.size, 5, none⟩ v5 _ ne)
  have hle : w.heap.size ≤ w1.heap.size := Nat.le_of_lt hsz
  refine ⟨RR.cells.1, by simp [World.setCell, Array.getElem?_modify, T3], RR, ?_⟩
  exact (((((B3.setCell (p := ⟨w1.heap.size, 0, none⟩) hle v0).setCell (p := ⟨w1.heap.size, 1, none⟩) hle v1).setCell (p := ⟨w1.heap.size, 2, none⟩) hle v2).setCell (p := ⟨w1.heap.size, 3, none⟩) hle v3).setCell (p := ⟨w1.heap.size, 4, none⟩) hle v4).setCell (p := ⟨w1.heap.size, 5, none⟩) hle v5

theorem two_cells (w : World) (op : Int) (h : 1 ≤ op ∧ op ≤ 9) : ∀ j u, (Lib.byteCells [81, UInt8.ofNat op.toNat])[j]? = some u → (w.alloc (.cells #[.int .u8 81, .int .u8 op] 5)).drew.cell? ⟨w.heap.size, j, none⟩ = some u := by
  intro j u hj
  have ht : ((UInt8.ofNat op.toNat).toNat : Int) = op := by rw [u8ofNat_toNat _ (by omega)]; omega
  have hh := heap_alloc_last w (.cells #[.int .u8 81, .int .u8 op] 5)
  have hh2 : (w.alloc (.cells #[.int .u8 81, .int .u8 op] 5)).drew.heap[w.heap.size]? = some (.cells #[.int .u8 81, .int .u8 op] 5 (0, 0)) := hh
  simp only [Lib.byteCells, List.map_cons, List.map_nil, ht] at hj
  simp only [World.cell?, hh2]
  match j, hj with
  | 0, hj => simpa using hj
  | 1, hj => simpa using hj

set_option maxRecDepth 100000 in
set_option maxHeartbeats 1000000 in
theorem ask_1 (op : Int) (hop : 1 ≤ op ∧ op ≤ 9) (x1 x3 x4 x5 : FuncId) (hidx : ∀ W : World, (Instr.index 68 (.agg opsT) (.int .i64 op)).run Try.prog W = .ok (.agg #[.func (.func 54) #[] #[], .func (.func x1) #[] #[], .func (.func 61) #[] #[], .func (.func x3) #[] #[], .func (.func x4) #[] #[], .func (.func x5) #[] #[]]) W) (id : Int) (c : ByteArray) (k rr : Int) (hc : c.size ≤ 140737488351232) (w : World) :
    Calls Try.prog 20 #[.agg #[.int .i64 op, .int .i64 id, .string c, .int .i64 k, .int .i64 rr]] w fun x w' => x = .returned (.tuple #[.string ⟨(askO true true false false op id c k rr).1.toArray⟩, .int .i64 (askO true true false false op id c k rr).2]) ∧ Below w.heap.size w w' := by
  have hbu3 : ∀ W : World, (Instr.build 24 #[(0, .int .i64 op)]).run Try.prog W = .ok (.agg #[.int .i64 op, .int .i64 0, .string ⟨#[]⟩, .int .i64 0, .int .i64 0]) W := fun W => run_build W _ _ _ (by kernel_rfl)
  have hbu1 : ∀ W : World, (Instr.build 87 #[]).run Try.prog W = .ok (.agg #[.pointer none, .slice none 0 0, .int .i64 0]) W := fun W => run_build W _ _ _ (by kernel_rfl)
  have hQ1 : Try.prog.eqGuardType Try.prog.depth 24 = false := by kernel_rfl
  have hNE := fun b hb W => neq_rq op 0 ⟨#[]⟩ k rr 0 ⟨#[]⟩ 0 0 b hb W
  have K := Lib.hid (fun W => known_calls op W)
  have hkn : decide (1 ≤ op ∧ op ≤ 9) = true := by simpa using hop
  rw [hkn] at K
  have O := Lib.hid (fun W => operations_calls W)
  have BR := Lib.hid (fun W => operations_3_calls op id c k rr W)
  have LO := Lib.hid (fun W => low_calls op id c k rr W)
  have HBq := Lib.hid ((Below.refl w.heap.size w).alloc (Nat.le_refl _) (.cells #[.int .i64 op, .int .i64 id, .string c, .int .i64 k, .int .i64 rr] 24))
  have HQ := Lib.hid (rq_box w op id c k rr)
  obtain ⟨res, hres⟩ : ∃ res, askO true true false false op id c k rr = res := ⟨_, rfl⟩
  rw [hres]
  unfold askO at hres
  clear hkn
  go_enter Try.func20, Try.ntmps20
  go_wp2_with fail
  refine (K.out _).mono ?_
  rintro x y ⟨rfl, rfl⟩
  have hsz : w.heap.size < (w.alloc (.cells #[.int .i64 op, .int .i64 id, .string c, .int .i64 k, .int .i64 rr] 24)).heap.size := by simp
  generalize w.alloc (.cells #[.int .i64 op, .int .i64 id, .string c, .int .i64 k, .int .i64 rr] 24) = w1 at HBq HQ hsz ⊢
  obtain ⟨q0, q1, q2, q3, q4, _⟩ := HQ.out.cells
  have hA1 : ∀ o, (w1.alloc o).cell? ⟨w.heap.size, 0, none⟩ = some (.int .i64 op) := fun o => (HQ.out.alloc o).cells.1
  have hA1d : ∀ o, (w1.alloc o).drew.cell? ⟨w.heap.size, 0, none⟩ = some (.int .i64 op) := fun o => (HQ.out.alloc o).cells.1
  have hA1e : ∀ o, (w1.drew.alloc o).cell? ⟨w.heap.size, 0, none⟩ = some (.int .i64 op) := fun o => (HQ.out.alloc o).cells.1
  have q0d : w1.drew.cell? ⟨w.heap.size, 0, none⟩ = some (.int .i64 op) := q0
  have P1 := Lib.hid (fun (w3 : World) (k3 : Below w1.drew.heap.size w1.drew w3) => (⟨HQ.out.of (k3.block _ hsz), HBq.out.drew.trans (k3.mono (Nat.le_of_lt hsz))⟩ : Rq w3 w.heap.size op id c k rr ∧ Below w.heap.size w w3))
  have P2 := Lib.hid (fun (w3 : World) (k3 : Below (w1.alloc (.cells #[.nilFunc, .nilFunc, .nilFunc, .nilFunc, .nilFunc, .nilFunc] 67)).drew.heap.size (w1.alloc (.cells #[.nilFunc, .nilFunc, .nilFunc, .nilFunc, .nilFunc, .nilFunc] 67)).drew w3) => laid2 w w1 w3 op id c k rr HQ.out HBq.out hsz k3)
  go_upto_region 3 with fail
  go_cut [4] (fun s4 wx => ∃ g : Nat, s4 = .pointer (some ⟨g, 0, none⟩) ∧ w.heap.size < g ∧ wx.heap[g]? = some (.cells #[.func (.func 54) #[] #[], .func (.func x1) #[] #[], .func (.func 61) #[] #[], .func (.func x3) #[] #[], .func (.func x4) #[] #[], .func (.func x5) #[] #[]] 67 (0, 0)) ∧ Rq wx w.heap.size op id c k rr ∧ Below w.heap.size w wx)
  case first =>
    go_region_held3 (fun W => W.cell? ⟨w.heap.size, 0, none⟩ = some (.int .i64 op))
      (first | with_reducible exact e3 | with_reducible exact q0 | with_reducible exact q0d | with_reducible exact hA1 _ | with_reducible exact hA1d _ | with_reducible exact hA1e _ | with_reducible exact hA3 _ | with_reducible exact hS3 _ _ _ _ _ _ | fail)
      (first | (go_at_call 24; refine (O.out w1.drew).mono ?_; rintro x w3 ⟨rfl, k3⟩; obtain ⟨Q3, B3⟩ := P1.out w3 k3; have e3 := Q3.cells.1; have hA3 := fun o => (Q3.alloc o).cells.1) | (go_at_call 24; refine (O.out (w1.alloc (.cells #[.nilFunc, .nilFunc, .nilFunc, .nilFunc, .nilFunc, .nilFunc] 67)).drew).mono ?_; rintro x w3 ⟨rfl, k3⟩; obtain ⟨Q3, B3, T3, tc, t0, t1, t2, t3, t4, t5, hR3⟩ := P2.out w3 k3; have hS3 := (fun v0 v1 v2 v3 v4 v5 => (hR3 v0 v1 v2 v3 v4 v5).1); have e3 := Q3.cells.1))
    all_goals (first | (have hR4 := hR3; (go_wp2_with fail; go_meet; exact ⟨w1.heap.size, rfl, hsz, (hR3 _ _ _ _ _ _).2.1, (hR3 _ _ _ _ _ _).2.2.1, (hR3 _ _ _ _ _ _).2.2.2⟩)) | (go_wp2_with fail; go_meet; exact ⟨w3.heap.size, rfl, Nat.lt_of_lt_of_le (Q3.lt) (Nat.le_refl _), heap_alloc_last _ _, Q3.alloc _, B3.alloc B3.size _⟩))
  case rest =>
    obtain ⟨g, rfl, hg, hT, hq, hb⟩ := hcut
    clear P1 P2 hA1 hA1d hA1e q0d q0 q1 q2 q3 q4 HQ HBq hsz hidx
    obtain ⟨q0, q1, q2, q3, q4, _⟩ := hq.cells
    have hqs := hq.lt
    have hgs : g < wc.heap.size := (Array.getElem?_eq_some_iff.1 hT).1
    have t2 : wc.cell? ⟨g, 2, none⟩ = some (.func (.func 61) #[] #[]) := by simp [World.cell?, hT]
    have s0 : wc.drew.cell? ⟨g, 2, none⟩ = some (.func (.func 61) #[] #[]) ∧ wc.drew.cell? ⟨w.heap.size, 0, none⟩ = some (.int .i64 op) ∧ wc.drew.cell? ⟨w.heap.size, 1, none⟩ = some (.int .i64 id) ∧ wc.drew.cell? ⟨w.heap.size, 2, none⟩ = some (.string c) ∧ wc.drew.cell? ⟨w.heap.size, 3, none⟩ = some (.int .i64 k) ∧ wc.drew.cell? ⟨w.heap.size, 4, none⟩ = some (.int .i64 rr) := ⟨t2, q0, q1, q2, q3, q4⟩
    have P5 := Lib.hid (fun (w5 : World) (k5 : Below wc.drew.heap.size wc.drew w5) => (⟨hq.of (k5.block _ hqs), hb.drew.trans (k5.mono (Nat.le_of_lt hqs)), (k5.block _ hgs).trans hT⟩ : Rq w5 w.heap.size op id c k rr ∧ Below w.heap.size w w5 ∧ w5.heap[g]? = some (.cells #[.func (.func 54) #[] #[], .func (.func x1) #[] #[], .func (.func 61) #[] #[], .func (.func x3) #[] #[], .func (.func x4) #[] #[], .func (.func x5) #[] #[]] 67 (0, 0))))
    obtain ⟨fb, hfb⟩ : ∃ fb, askF true true false false id c k rr = fb := ⟨_, rfl⟩
    have hNB := hNE fb (by rw [← hfb]; simp [askF])
    rw [hfb] at hres
    clear hNE
    go_upto_region 4 with fail
    go_cut [22] (fun s22 wx => s22 = .bool fb ∧ Rq wx w.heap.size op id c k rr ∧ Below w.heap.size w wx ∧ wx.heap[g]? = some (.cells #[.func (.func 54) #[] #[], .func (.func x1) #[] #[], .func (.func 61) #[] #[], .func (.func x3) #[] #[], .func (.func x4) #[] #[], .func (.func x5) #[] #[]] 67 (0, 0)))
    case first =>
      go_region_held3 (fun W => W.cell? ⟨g, 2, none⟩ = some (.func (.func 61) #[] #[]) ∧ W.cell? ⟨w.heap.size, 0, none⟩ = some (.int .i64 op) ∧ W.cell? ⟨w.heap.size, 1, none⟩ = some (.int .i64 id) ∧ W.cell? ⟨w.heap.size, 2, none⟩ = some (.string c) ∧ W.cell? ⟨w.heap.size, 3, none⟩ = some (.int .i64 k) ∧ W.cell? ⟨w.heap.size, 4, none⟩ = some (.int .i64 rr))
        (first | with_reducible exact s5 | with_reducible exact s0 | fail)
        (first | (go_at_call 61; refine (BR.out wc.drew).mono ?_; rintro x w5 ⟨rfl, k5⟩; obtain ⟨Q5, B5, T5⟩ := P5.out w5 k5; have s5 := (show w5.cell? ⟨g, 2, none⟩ = some (.func (.func 61) #[] #[]) ∧ w5.cell? ⟨w.heap.size, 0, none⟩ = some (.int .i64 op) ∧ w5.cell? ⟨w.heap.size, 1, none⟩ = some (.int .i64 id) ∧ w5.cell? ⟨w.heap.size, 2, none⟩ = some (.string c) ∧ w5.cell? ⟨w.heap.size, 3, none⟩ = some (.int .i64 k) ∧ w5.cell? ⟨w.heap.size, 4, none⟩ = some (.int .i64 rr) from ⟨by simp [World.cell?, T5], Q5.cells.1, Q5.cells.2.1, Q5.cells.2.2.1, Q5.cells.2.2.2.1, Q5.cells.2.2.2.2.1⟩)))
      all_goals (go_wp2_with fail; go_meet; exact ⟨rfl, Q5, B5, T5⟩)
    case rest =>
      obtain ⟨rfl, hq2, hb2, hT2⟩ := hcut
      clear P5 s0 q0 q1 q2 q3 q4 t2 hT hq hb hqs hgs
      have HQ := Lib.hid hq2
      have HBq := Lib.hid hb2
      have HT := Lib.hid hT2
      obtain ⟨q0, q1, q2, q3, q4, _⟩ := hq2.cells
      clear hq2 hb2 hT2
      cases fb
      · obtain ⟨e, he⟩ : ∃ e, lowE id c k rr = e := ⟨_, rfl⟩
        rw [he] at LO hres
        rw [if_neg (by decide)] at hres
        go_wp2_with fail
        refine (LO.out _).mono ?_
        rintro x w6 ⟨rfl, k6⟩
        by_cases h0 : e = 0
        · subst h0
          rw [if_neg (by decide)] at hres
          subst hres
          obtain ⟨n0, n1, n2, n3⟩ := lowE_zero he
          have HQ6 := Lib.hid (HQ.out.of (k6.block _ HQ.out.lt))
          have HT6 := Lib.hid ((k6.block _ (Array.getElem?_eq_some_iff.1 HT.out).1).trans HT.out)
          have HB6 := Lib.hid (HBq.out.trans (k6.mono (Nat.le_of_lt HQ.out.lt)))
          clear k6 he q0 q1 q2 q3 q4 HQ HT HBq
          go_wp2
          have HW := Lib.hid (Wr.new w6)
          have HQ7 := Lib.hid (HQ6.out.alloc (.cells #[.pointer none, .slice none 0 0, .int .i64 0] 87))
          have HT7 := Lib.hid ((Below.heap_alloc w6 (.cells #[.pointer none, .slice none 0 0, .int .i64 0] 87) g (Array.getElem?_eq_some_iff.1 HT6.out).1).trans HT6.out)
          have HB7 := Lib.hid (HB6.out.alloc HB6.out.size (.cells #[.pointer none, .slice none 0 0, .int .i64 0] 87))
          have hqr : w.heap.size ≠ w6.heap.size := by have := HQ6.out.lt; omega
          have hwr : w.heap.size ≤ w6.heap.size := HB6.out.size
          have hgr : g ≠ w6.heap.size := by have := (Array.getElem?_eq_some_iff.1 HT6.out).1; omega
          obtain ⟨r, hr⟩ : ∃ r, w6.heap.size = r := ⟨_, rfl⟩
          generalize w6.alloc (.cells #[.pointer none, .slice none 0 0, .int .i64 0] 87) = w7 at HW HQ7 HT7 HB7 ⊢
          rw [hr] at HW hqr hgr hwr ⊢
          clear HQ6 HT6 HB6 hr
          have hwo : IntKind.u8.wrap op = op := by rw [IntKind.wrap_u8]; omega
          have WA := Lib.hid (HW.out.alloc (.cells #[.int .u8 81, .int .u8 op] 5))
          have WC := Lib.hid (Write_calls r r [] 0 w7.heap.size 81 (UInt8.ofNat op.toNat) (w7.alloc (.cells #[.int .u8 81, .int .u8 op] 5)).drew (WA.out.drewN 1) (by decide) (two_cells w7 op hop) (by have := HW.out.lt; omega))
          have P8 := Lib.hid (fun (w8 : World) (b8 : Below r (w7.alloc (.cells #[.int .u8 81, .int .u8 op] 5)).drew w8) (o8 : Oth (w7.alloc (.cells #[.int .u8 81, .int .u8 op] 5)).drew w8 r) => (⟨(HQ7.out.alloc _).of (o8 _ _ _ _ hqr (by decide) (HQ7.out.alloc _)), (HB7.out.alloc HB7.out.size _).drew.trans (b8.mono hwr), (o8 _ _ _ _ hgr (by decide) ((Below.heap_alloc w7 _ _ (Array.getElem?_eq_some_iff.1 HT7.out).1).trans HT7.out)).trans ((Below.heap_alloc w7 _ _ (Array.getElem?_eq_some_iff.1 HT7.out).1).trans HT7.out)⟩ : Rq w8 w.heap.size op id c k rr ∧ Below w.heap.size w w8 ∧ w8.heap[g]? = some (.cells #[.func (.func 54) #[] #[], .func (.func x1) #[] #[], .func (.func 61) #[] #[], .func (.func x3) #[] #[], .func (.func x4) #[] #[], .func (.func x5) #[] #[]] 67 (0, 0))))
          have q0 : w7.cell? ⟨w.heap.size, 0, none⟩ = some (.int .i64 op) := HQ7.out.cells.1
          have q0d : w7.drew.cell? ⟨w.heap.size, 0, none⟩ = some (.int .i64 op) := q0
          have q0e : ∀ o, (w7.alloc o).drew.cell? ⟨w.heap.size, 0, none⟩ = some (.int .i64 op) := fun o => (HQ7.out.alloc o).cells.1
          have q0f : ∀ o, (w7.alloc o).cell? ⟨w.heap.size, 0, none⟩ = some (.int .i64 op) := fun o => (HQ7.out.alloc o).cells.1
          go_region_held3 (fun W => W.cell? ⟨w.heap.size, 0, none⟩ = some (.int .i64 op))
            (first | with_reducible exact q8 | with_reducible exact q0d | with_reducible exact q0e _ | with_reducible exact q0f _ | fail)
            (first | (go_at_call 33; refine WC.out.mono ?_; rintro x w8 ⟨rfl, h8, b8, o8⟩; obtain ⟨Q8, B8, T8⟩ := P8.out w8 b8 o8; have q8 := Q8.cells.1))
          have HW8 := Lib.hid h8.wr
          have HQ8 := Lib.hid Q8
          have HT8 := Lib.hid T8
          have HB8 := Lib.hid B8
          have c8 : w8.cell? ⟨g, 0, none⟩ = some (.func (.func 54) #[] #[]) := by simp [World.cell?, T8]
          obtain ⟨p0, p1, p2, p3, p4, _⟩ := Q8.cells
          have AK := Lib.hid (operations_1_calls r r ([] ++ [81, UInt8.ofNat op.toNat]) 0 op id c k rr n0 n1 n2 n3 w8 h8.wr (by simp; omega))
          clear h8 b8 o8 Q8 T8 B8 q8 q0 q0d q0e q0f P8 WC WA HQ7 HT7 HB7 HW
          go_wp2_with fail
          refine AK.out.mono ?_
          rintro x w9 ⟨rfl, h9, b9, o9⟩
          have hL : [] ++ [81, UInt8.ofNat op.toNat] ++ vNum id ++ vNum c.size ++ c.data.toList = askB true true false false op id c k rr := by simp [askB, numIf, textIf]
          rw [hL] at h9
          have hne : askB true true false false op id c k rr ≠ [] := by simp [askB]
          have DN := Lib.hid (done_calls r r _ 0 w9 h9 hne)
          have HB9 := Lib.hid (HB8.out.trans (b9.mono hwr))
          rw [if_pos rfl] at DN
          clear h9 b9 o9 c8 p0 p1 p2 p3 p4 HW8 HQ8 HT8 HB8 AK
          generalize hout : askB true true false false op id c k rr = out at DN ⊢
          go_wp2_with fail
          refine DN.out.mono ?_
          rintro x w10 ⟨rfl, b10⟩
          have HB10 := Lib.hid (HB9.out.trans (b10.mono hwr))
          clear b10 HB9
          go_wp2
          go_ret2
          subst hout
          exact ⟨rfl, HB10.out⟩
        · rw [if_pos h0] at hres
          subst hres
          have he2 : (e == 0) = false := by rw [beq_eq_false_iff_ne]; exact h0
          have HB6 := Lib.hid (HBq.out.trans (k6.mono (Nat.le_of_lt HQ.out.lt)))
          clear k6 h0 he
          go_wp2
          go_ret2
          exact ⟨rfl, HB6.out⟩
      · rw [if_pos rfl] at hres
        subst hres
        go_wp2
        go_ret2
        exact ⟨rfl, HBq.out⟩

set_option maxRecDepth 100000 in
set_option maxHeartbeats 1000000 in
theorem ask_2 (op : Int) (hop : 1 ≤ op ∧ op ≤ 9) (x1 x3 x4 x5 : FuncId) (hidx : ∀ W : World, (Instr.index 68 (.agg opsT) (.int .i64 op)).run Try.prog W = .ok (.agg #[.func (.func 62) #[] #[], .func (.func x1) #[] #[], .func (.func 64) #[] #[], .func (.func x3) #[] #[], .func (.func x4) #[] #[], .func (.func x5) #[] #[]]) W) (id : Int) (c : ByteArray) (k rr : Int) (hc : c.size ≤ 140737488351232) (w : World) :
    Calls Try.prog 20 #[.agg #[.int .i64 op, .int .i64 id, .string c, .int .i64 k, .int .i64 rr]] w fun x w' => x = .returned (.tuple #[.string ⟨(askO true false false false op id c k rr).1.toArray⟩, .int .i64 (askO true false false false op id c k rr).2]) ∧ Below w.heap.size w w' := by
  have hbu3 : ∀ W : World, (Instr.build 24 #[(0, .int .i64 op)]).run Try.prog W = .ok (.agg #[.int .i64 op, .int .i64 0, .string ⟨#[]⟩, .int .i64 0, .int .i64 0]) W := fun W => run_build W _ _ _ (by kernel_rfl)
  have hbu1 : ∀ W : World, (Instr.build 87 #[]).run Try.prog W = .ok (.agg #[.pointer none, .slice none 0 0, .int .i64 0]) W := fun W => run_build W _ _ _ (by kernel_rfl)
  have hQ1 : Try.prog.eqGuardType Try.prog.depth 24 = false := by kernel_rfl
  have hNE := fun b hb W => neq_rq op 0 c k rr 0 ⟨#[]⟩ 0 0 b hb W
  have K := Lib.hid (fun W => known_calls op W)
  have hkn : decide (1 ≤ op ∧ op ≤ 9) = true := by simpa using hop
  rw [hkn] at K
  have O := Lib.hid (fun W => operations_calls W)
  have BR := Lib.hid (fun W => bareID_calls op id c k rr W)
  have LO := Lib.hid (fun W => low_calls op id c k rr W)
  have HBq := Lib.hid ((Below.refl w.heap.size w).alloc (Nat.le_refl _) (.cells #[.int .i64 op, .int .i64 id, .string c, .int .i64 k, .int .i64 rr] 24))
  have HQ := Lib.hid (rq_box w op id c k rr)
  obtain ⟨res, hres⟩ : ∃ res, askO true false false false op id c k rr = res := ⟨_, rfl⟩
  rw [hres]
  unfold askO at hres
  clear hkn
  go_enter Try.func20, Try.ntmps20
  go_wp2_with fail
  refine (K.out _).mono ?_
  rintro x y ⟨rfl, rfl⟩
  have hsz : w.heap.size < (w.alloc (.cells #[.int .i64 op, .int .i64 id, .string c, .int .i64 k, .int .i64 rr] 24)).heap.size := by simp
  generalize w.alloc (.cells #[.int .i64 op, .int .i64 id, .string c, .int .i64 k, .int .i64 rr] 24) = w1 at HBq HQ hsz ⊢
  obtain ⟨q0, q1, q2, q3, q4, _⟩ := HQ.out.cells
  have hA1 : ∀ o, (w1.alloc o).cell? ⟨w.heap.size, 0, none⟩ = some (.int .i64 op) := fun o => (HQ.out.alloc o).cells.1
  have hA1d : ∀ o, (w1.alloc o).drew.cell? ⟨w.heap.size, 0, none⟩ = some (.int .i64 op) := fun o => (HQ.out.alloc o).cells.1
  have hA1e : ∀ o, (w1.drew.alloc o).cell? ⟨w.heap.size, 0, none⟩ = some (.int .i64 op) := fun o => (HQ.out.alloc o).cells.1
  have q0d : w1.drew.cell? ⟨w.heap.size, 0, none⟩ = some (.int .i64 op) := q0
  have P1 := Lib.hid (fun (w3 : World) (k3 : Below w1.drew.heap.size w1.drew w3) => (⟨HQ.out.of (k3.block _ hsz), HBq.out.drew.trans (k3.mono (Nat.le_of_lt hsz))⟩ : Rq w3 w.heap.size op id c k rr ∧ Below w.heap.size w w3))
  have P2 := Lib.hid (fun (w3 : World) (k3 : Below (w1.alloc (.cells #[.nilFunc, .nilFunc, .nilFunc, .nilFunc, .nilFunc, .nilFunc] 67)).drew.heap.size (w1.alloc (.cells #[.nilFunc, .nilFunc, .nilFunc, .nilFunc, .nilFunc, .nilFunc] 67)).drew w3) => laid2 w w1 w3 op id c k rr HQ.out HBq.out hsz k3)
  go_upto_region 3 with fail
  go_cut [4] (fun s4 wx => ∃ g : Nat, s4 = .pointer (some ⟨g, 0, none⟩) ∧ w.heap.size < g ∧ wx.heap[g]? = some (.cells #[.func (.func 62) #[] #[], .func (.func x1) #[] #[], .func (.func 64) #[] #[], .func (.func x3) #[] #[], .func (.func x4) #[] #[], .func (.func x5) #[] #[]] 67 (0, 0)) ∧ Rq wx w.heap.size op id c k rr ∧ Below w.heap.size w wx)
  case first =>
    go_region_held3 (fun W => W.cell? ⟨w.heap.size, 0, none⟩ = some (.int .i64 op))
      (first | with_reducible exact e3 | with_reducible exact q0 | with_reducible exact q0d | with_reducible exact hA1 _ | with_reducible exact hA1d _ | with_reducible exact hA1e _ | with_reducible exact hA3 _ | with_reducible exact hS3 _ _ _ _ _ _ | fail)
      (first | (go_at_call 24; refine (O.out w1.drew).mono ?_; rintro x w3 ⟨rfl, k3⟩; obtain ⟨Q3, B3⟩ := P1.out w3 k3; have e3 := Q3.cells.1; have hA3 := fun o => (Q3.alloc o).cells.1) | (go_at_call 24; refine (O.out (w1.alloc (.cells #[.nilFunc, .nilFunc, .nilFunc, .nilFunc, .nilFunc, .nilFunc] 67)).drew).mono ?_; rintro x w3 ⟨rfl, k3⟩; obtain ⟨Q3, B3, T3, tc, t0, t1, t2, t3, t4, t5, hR3⟩ := P2.out w3 k3; have hS3 := (fun v0 v1 v2 v3 v4 v5 => (hR3 v0 v1 v2 v3 v4 v5).1); have e3 := Q3.cells.1))
    all_goals (first | (have hR4 := hR3; (go_wp2_with fail; go_meet; exact ⟨w1.heap.size, rfl, hsz, (hR3 _ _ _ _ _ _).2.1, (hR3 _ _ _ _ _ _).2.2.1, (hR3 _ _ _ _ _ _).2.2.2⟩)) | (go_wp2_with fail; go_meet; exact ⟨w3.heap.size, rfl, Nat.lt_of_lt_of_le (Q3.lt) (Nat.le_refl _), heap_alloc_last _ _, Q3.alloc _, B3.alloc B3.size _⟩))
  case rest =>
    obtain ⟨g, rfl, hg, hT, hq, hb⟩ := hcut
    clear P1 P2 hA1 hA1d hA1e q0d q0 q1 q2 q3 q4 HQ HBq hsz hidx
    obtain ⟨q0, q1, q2, q3, q4, _⟩ := hq.cells
    have hqs := hq.lt
    have hgs : g < wc.heap.size := (Array.getElem?_eq_some_iff.1 hT).1
    have t2 : wc.cell? ⟨g, 2, none⟩ = some (.func (.func 64) #[] #[]) := by simp [World.cell?, hT]
    have s0 : wc.drew.cell? ⟨g, 2, none⟩ = some (.func (.func 64) #[] #[]) ∧ wc.drew.cell? ⟨w.heap.size, 0, none⟩ = some (.int .i64 op) ∧ wc.drew.cell? ⟨w.heap.size, 1, none⟩ = some (.int .i64 id) ∧ wc.drew.cell? ⟨w.heap.size, 2, none⟩ = some (.string c) ∧ wc.drew.cell? ⟨w.heap.size, 3, none⟩ = some (.int .i64 k) ∧ wc.drew.cell? ⟨w.heap.size, 4, none⟩ = some (.int .i64 rr) := ⟨t2, q0, q1, q2, q3, q4⟩
    have P5 := Lib.hid (fun (w5 : World) (k5 : Below wc.drew.heap.size wc.drew w5) => (⟨hq.of (k5.block _ hqs), hb.drew.trans (k5.mono (Nat.le_of_lt hqs)), (k5.block _ hgs).trans hT⟩ : Rq w5 w.heap.size op id c k rr ∧ Below w.heap.size w w5 ∧ w5.heap[g]? = some (.cells #[.func (.func 62) #[] #[], .func (.func x1) #[] #[], .func (.func 64) #[] #[], .func (.func x3) #[] #[], .func (.func x4) #[] #[], .func (.func x5) #[] #[]] 67 (0, 0))))
    obtain ⟨fb, hfb⟩ : ∃ fb, askF true false false false id c k rr = fb := ⟨_, rfl⟩
    have hNB := hNE fb (by rw [← hfb]; simp [askF])
    rw [hfb] at hres
    clear hNE
    go_upto_region 4 with fail
    go_cut [22] (fun s22 wx => s22 = .bool fb ∧ Rq wx w.heap.size op id c k rr ∧ Below w.heap.size w wx ∧ wx.heap[g]? = some (.cells #[.func (.func 62) #[] #[], .func (.func x1) #[] #[], .func (.func 64) #[] #[], .func (.func x3) #[] #[], .func (.func x4) #[] #[], .func (.func x5) #[] #[]] 67 (0, 0)))
    case first =>
      go_region_held3 (fun W => W.cell? ⟨g, 2, none⟩ = some (.func (.func 64) #[] #[]) ∧ W.cell? ⟨w.heap.size, 0, none⟩ = some (.int .i64 op) ∧ W.cell? ⟨w.heap.size, 1, none⟩ = some (.int .i64 id) ∧ W.cell? ⟨w.heap.size, 2, none⟩ = some (.string c) ∧ W.cell? ⟨w.heap.size, 3, none⟩ = some (.int .i64 k) ∧ W.cell? ⟨w.heap.size, 4, none⟩ = some (.int .i64 rr))
        (first | with_reducible exact s5 | with_reducible exact s0 | fail)
        (first | (go_at_call 64; refine (BR.out wc.drew).mono ?_; rintro x w5 ⟨rfl, k5⟩; obtain ⟨Q5, B5, T5⟩ := P5.out w5 k5; have s5 := (show w5.cell? ⟨g, 2, none⟩ = some (.func (.func 64) #[] #[]) ∧ w5.cell? ⟨w.heap.size, 0, none⟩ = some (.int .i64 op) ∧ w5.cell? ⟨w.heap.size, 1, none⟩ = some (.int .i64 id) ∧ w5.cell? ⟨w.heap.size, 2, none⟩ = some (.string c) ∧ w5.cell? ⟨w.heap.size, 3, none⟩ = some (.int .i64 k) ∧ w5.cell? ⟨w.heap.size, 4, none⟩ = some (.int .i64 rr) from ⟨by simp [World.cell?, T5], Q5.cells.1, Q5.cells.2.1, Q5.cells.2.2.1, Q5.cells.2.2.2.1, Q5.cells.2.2.2.2.1⟩)))
      all_goals (go_wp2_with fail; go_meet; exact ⟨rfl, Q5, B5, T5⟩)
    case rest =>
      obtain ⟨rfl, hq2, hb2, hT2⟩ := hcut
      clear P5 s0 q0 q1 q2 q3 q4 t2 hT hq hb hqs hgs
      have HQ := Lib.hid hq2
      have HBq := Lib.hid hb2
      have HT := Lib.hid hT2
      obtain ⟨q0, q1, q2, q3, q4, _⟩ := hq2.cells
      clear hq2 hb2 hT2
      cases fb
      · obtain ⟨e, he⟩ : ∃ e, lowE id c k rr = e := ⟨_, rfl⟩
        rw [he] at LO hres
        rw [if_neg (by decide)] at hres
        go_wp2_with fail
        refine (LO.out _).mono ?_
        rintro x w6 ⟨rfl, k6⟩
        by_cases h0 : e = 0
        · subst h0
          rw [if_neg (by decide)] at hres
          subst hres
          obtain ⟨n0, n1, n2, n3⟩ := lowE_zero he
          have HQ6 := Lib.hid (HQ.out.of (k6.block _ HQ.out.lt))
          have HT6 := Lib.hid ((k6.block _ (Array.getElem?_eq_some_iff.1 HT.out).1).trans HT.out)
          have HB6 := Lib.hid (HBq.out.trans (k6.mono (Nat.le_of_lt HQ.out.lt)))
          clear k6 he q0 q1 q2 q3 q4 HQ HT HBq
          go_wp2
          have HW := Lib.hid (Wr.new w6)
          have HQ7 := Lib.hid (HQ6.out.alloc (.cells #[.pointer none, .slice none 0 0, .int .i64 0] 87))
          have HT7 := Lib.hid ((Below.heap_alloc w6 (.cells #[.pointer none, .slice none 0 0, .int .i64 0] 87) g (Array.getElem?_eq_some_iff.1 HT6.out).1).trans HT6.out)
          have HB7 := Lib.hid (HB6.out.alloc HB6.out.size (.cells #[.pointer none, .slice none 0 0, .int .i64 0] 87))
          have hqr : w.heap.size ≠ w6.heap.size := by have := HQ6.out.lt; omega
          have hwr : w.heap.size ≤ w6.heap.size := HB6.out.size
          have hgr : g ≠ w6.heap.size := by have := (Array.getElem?_eq_some_iff.1 HT6.out).1; omega
          obtain ⟨r, hr⟩ : ∃ r, w6.heap.size = r := ⟨_, rfl⟩
          generalize w6.alloc (.cells #[.pointer none, .slice none 0 0, .int .i64 0] 87) = w7 at HW HQ7 HT7 HB7 ⊢
          rw [hr] at HW hqr hgr hwr ⊢
          clear HQ6 HT6 HB6 hr
          have hwo : IntKind.u8.wrap op = op := by rw [IntKind.wrap_u8]; omega
          have WA := Lib.hid (HW.out.alloc (.cells #[.int .u8 81, .int .u8 op] 5))
          have WC := Lib.hid (Write_calls r r [] 0 w7.heap.size 81 (UInt8.ofNat op.toNat) (w7.alloc (.cells #[.int .u8 81, .int .u8 op] 5)).drew (WA.out.drewN 1) (by decide) (two_cells w7 op hop) (by have := HW.out.lt; omega))
          have P8 := Lib.hid (fun (w8 : World) (b8 : Below r (w7.alloc (.cells #[.int .u8 81, .int .u8 op] 5)).drew w8) (o8 : Oth (w7.alloc (.cells #[.int .u8 81, .int .u8 op] 5)).drew w8 r) => (⟨(HQ7.out.alloc _).of (o8 _ _ _ _ hqr (by decide) (HQ7.out.alloc _)), (HB7.out.alloc HB7.out.size _).drew.trans (b8.mono hwr), (o8 _ _ _ _ hgr (by decide) ((Below.heap_alloc w7 _ _ (Array.getElem?_eq_some_iff.1 HT7.out).1).trans HT7.out)).trans ((Below.heap_alloc w7 _ _ (Array.getElem?_eq_some_iff.1 HT7.out).1).trans HT7.out)⟩ : Rq w8 w.heap.size op id c k rr ∧ Below w.heap.size w w8 ∧ w8.heap[g]? = some (.cells #[.func (.func 62) #[] #[], .func (.func x1) #[] #[], .func (.func 64) #[] #[], .func (.func x3) #[] #[], .func (.func x4) #[] #[], .func (.func x5) #[] #[]] 67 (0, 0))))
          have q0 : w7.cell? ⟨w.heap.size, 0, none⟩ = some (.int .i64 op) := HQ7.out.cells.1
          have q0d : w7.drew.cell? ⟨w.heap.size, 0, none⟩ = some (.int .i64 op) := q0
          have q0e : ∀ o, (w7.alloc o).drew.cell? ⟨w.heap.size, 0, none⟩ = some (.int .i64 op) := fun o => (HQ7.out.alloc o).cells.1
          have q0f : ∀ o, (w7.alloc o).cell? ⟨w.heap.size, 0, none⟩ = some (.int .i64 op) := fun o => (HQ7.out.alloc o).cells.1
          go_region_held3 (fun W => W.cell? ⟨w.heap.size, 0, none⟩ = some (.int .i64 op))
            (first | with_reducible exact q8 | with_reducible exact q0d | with_reducible exact q0e _ | with_reducible exact q0f _ | fail)
            (first | (go_at_call 33; refine WC.out.mono ?_; rintro x w8 ⟨rfl, h8, b8, o8⟩; obtain ⟨Q8, B8, T8⟩ := P8.out w8 b8 o8; have q8 := Q8.cells.1))
          have HW8 := Lib.hid h8.wr
          have HQ8 := Lib.hid Q8
          have HT8 := Lib.hid T8
          have HB8 := Lib.hid B8
          have c8 : w8.cell? ⟨g, 0, none⟩ = some (.func (.func 62) #[] #[]) := by simp [World.cell?, T8]
          obtain ⟨p0, p1, p2, p3, p4, _⟩ := Q8.cells
          have AK := Lib.hid (askID_calls r r ([] ++ [81, UInt8.ofNat op.toNat]) 0 op id c k rr n0 n1 n2 n3 w8 h8.wr (by simp; omega))
          clear h8 b8 o8 Q8 T8 B8 q8 q0 q0d q0e q0f P8 WC WA HQ7 HT7 HB7 HW
          go_wp2_with fail
          refine AK.out.mono ?_
          rintro x w9 ⟨rfl, h9, b9, o9⟩
          have hL : [] ++ [81, UInt8.ofNat op.toNat] ++ vNum id = askB true false false false op id c k rr := by simp [askB, numIf, textIf]
          rw [hL] at h9
          have hne : askB true false false false op id c k rr ≠ [] := by simp [askB]
          have DN := Lib.hid (done_calls r r _ 0 w9 h9 hne)
          have HB9 := Lib.hid (HB8.out.trans (b9.mono hwr))
          rw [if_pos rfl] at DN
          clear h9 b9 o9 c8 p0 p1 p2 p3 p4 HW8 HQ8 HT8 HB8 AK
          generalize hout : askB true false false false op id c k rr = out at DN ⊢
          go_wp2_with fail
          refine DN.out.mono ?_
          rintro x w10 ⟨rfl, b10⟩
          have HB10 := Lib.hid (HB9.out.trans (b10.mono hwr))
          clear b10 HB9
          go_wp2
          go_ret2
          subst hout
          exact ⟨rfl, HB10.out⟩
        · rw [if_pos h0] at hres
          subst hres
          have he2 : (e == 0) = false := by rw [beq_eq_false_iff_ne]; exact h0
          have HB6 := Lib.hid (HBq.out.trans (k6.mono (Nat.le_of_lt HQ.out.lt)))
          clear k6 h0 he
          go_wp2
          go_ret2
          exact ⟨rfl, HB6.out⟩
      · rw [if_pos rfl] at hres
        subst hres
        go_wp2
        go_ret2
        exact ⟨rfl, HBq.out⟩

set_option maxRecDepth 100000 in
set_option maxHeartbeats 1000000 in
theorem ask_4 (op : Int) (hop : 1 ≤ op ∧ op ≤ 9) (x1 x3 x4 x5 : FuncId) (hidx : ∀ W : World, (Instr.index 68 (.agg opsT) (.int .i64 op)).run Try.prog W = .ok (.agg #[.func (.func 71) #[] #[], .func (.func x1) #[] #[], .func (.func 73) #[] #[], .func (.func x3) #[] #[], .func (.func x4) #[] #[], .func (.func x5) #[] #[]]) W) (id : Int) (c : ByteArray) (k rr : Int) (hc : c.size ≤ 140737488351232) (w : World) :
    Calls Try.prog 20 #[.agg #[.int .i64 op, .int .i64 id, .string c, .int .i64 k, .int .i64 rr]] w fun x w' => x = .returned (.tuple #[.string ⟨(askO false true true false op id c k rr).1.toArray⟩, .int .i64 (askO false true true false op id c k rr).2]) ∧ Below w.heap.size w w' := by
  have hbu3 : ∀ W : World, (Instr.build 24 #[(0, .int .i64 op)]).run Try.prog W = .ok (.agg #[.int .i64 op, .int .i64 0, .string ⟨#[]⟩, .int .i64 0, .int .i64 0]) W := fun W => run_build W _ _ _ (by kernel_rfl)
  have hbu1 : ∀ W : World, (Instr.build 87 #[]).run Try.prog W = .ok (.agg #[.pointer none, .slice none 0 0, .int .i64 0]) W := fun W => run_build W _ _ _ (by kernel_rfl)
  have hQ1 : Try.prog.eqGuardType Try.prog.depth 24 = false := by kernel_rfl
  have hNE := fun b hb W => neq_rq op id ⟨#[]⟩ 0 rr 0 ⟨#[]⟩ 0 0 b hb W
  have K := Lib.hid (fun W => known_calls op W)
  have hkn : decide (1 ≤ op ∧ op ≤ 9) = true := by simpa using hop
  rw [hkn] at K
  have O := Lib.hid (fun W => operations_calls W)
  have BR := Lib.hid (fun W => operations_9_calls op id c k rr W)
  have LO := Lib.hid (fun W => low_calls op id c k rr W)
  have HBq := Lib.hid ((Below.refl w.heap.size w).alloc (Nat.le_refl _) (.cells #[.int .i64 op, .int .i64 id, .string c, .int .i64 k, .int .i64 rr] 24))
  have HQ := Lib.hid (rq_box w op id c k rr)
  obtain ⟨res, hres⟩ : ∃ res, askO false true true false op id c k rr = res := ⟨_, rfl⟩
  rw [hres]
  unfold askO at hres
  clear hkn
  go_enter Try.func20, Try.ntmps20
  go_wp2_with fail
  refine (K.out _).mono ?_
  rintro x y ⟨rfl, rfl⟩
  have hsz : w.heap.size < (w.alloc (.cells #[.int .i64 op, .int .i64 id, .string c, .int .i64 k, .int .i64 rr] 24)).heap.size := by simp
  generalize w.alloc (.cells #[.int .i64 op, .int .i64 id, .string c, .int .i64 k, .int .i64 rr] 24) = w1 at HBq HQ hsz ⊢
  obtain ⟨q0, q1, q2, q3, q4, _⟩ := HQ.out.cells
  have hA1 : ∀ o, (w1.alloc o).cell? ⟨w.heap.size, 0, none⟩ = some (.int .i64 op) := fun o => (HQ.out.alloc o).cells.1
  have hA1d : ∀ o, (w1.alloc o).drew.cell? ⟨w.heap.size, 0, none⟩ = some (.int .i64 op) := fun o => (HQ.out.alloc o).cells.1
  have hA1e : ∀ o, (w1.drew.alloc o).cell? ⟨w.heap.size, 0, none⟩ = some (.int .i64 op) := fun o => (HQ.out.alloc o).cells.1
  have q0d : w1.drew.cell? ⟨w.heap.size, 0, none⟩ = some (.int .i64 op) := q0
  have P1 := Lib.hid (fun (w3 : World) (k3 : Below w1.drew.heap.size w1.drew w3) => (⟨HQ.out.of (k3.block _ hsz), HBq.out.drew.trans (k3.mono (Nat.le_of_lt hsz))⟩ : Rq w3 w.heap.size op id c k rr ∧ Below w.heap.size w w3))
  have P2 := Lib.hid (fun (w3 : World) (k3 : Below (w1.alloc (.cells #[.nilFunc, .nilFunc, .nilFunc, .nilFunc, .nilFunc, .nilFunc] 67)).drew.heap.size (w1.alloc (.cells #[.nilFunc, .nilFunc, .nilFunc, .nilFunc, .nilFunc, .nilFunc] 67)).drew w3) => laid2 w w1 w3 op id c k rr HQ.out HBq.out hsz k3)
  go_upto_region 3 with fail
  go_cut [4] (fun s4 wx => ∃ g : Nat, s4 = .pointer (some ⟨g, 0, none⟩) ∧ w.heap.size < g ∧ wx.heap[g]? = some (.cells #[.func (.func 71) #[] #[], .func (.func x1) #[] #[], .func (.func 73) #[] #[], .func (.func x3) #[] #[], .func (.func x4) #[] #[], .func (.func x5) #[] #[]] 67 (0, 0)) ∧ Rq wx w.heap.size op id c k rr ∧ Below w.heap.size w wx)
  case first =>
    go_region_held3 (fun W => W.cell? ⟨w.heap.size, 0, none⟩ = some (.int .i64 op))
      (first | with_reducible exact e3 | with_reducible exact q0 | with_reducible exact q0d | with_reducible exact hA1 _ | with_reducible exact hA1d _ | with_reducible exact hA1e _ | with_reducible exact hA3 _ | with_reducible exact hS3 _ _ _ _ _ _ | fail)
      (first | (go_at_call 24; refine (O.out w1.drew).mono ?_; rintro x w3 ⟨rfl, k3⟩; obtain ⟨Q3, B3⟩ := P1.out w3 k3; have e3 := Q3.cells.1; have hA3 := fun o => (Q3.alloc o).cells.1) | (go_at_call 24; refine (O.out (w1.alloc (.cells #[.nilFunc, .nilFunc, .nilFunc, .nilFunc, .nilFunc, .nilFunc] 67)).drew).mono ?_; rintro x w3 ⟨rfl, k3⟩; obtain ⟨Q3, B3, T3, tc, t0, t1, t2, t3, t4, t5, hR3⟩ := P2.out w3 k3; have hS3 := (fun v0 v1 v2 v3 v4 v5 => (hR3 v0 v1 v2 v3 v4 v5).1); have e3 := Q3.cells.1))
    all_goals (first | (have hR4 := hR3; (go_wp2_with fail; go_meet; exact ⟨w1.heap.size, rfl, hsz, (hR3 _ _ _ _ _ _).2.1, (hR3 _ _ _ _ _ _).2.2.1, (hR3 _ _ _ _ _ _).2.2.2⟩)) | (go_wp2_with fail; go_meet; exact ⟨w3.heap.size, rfl, Nat.lt_of_lt_of_le (Q3.lt) (Nat.le_refl _), heap_alloc_last _ _, Q3.alloc _, B3.alloc B3.size _⟩))
  case rest =>
    obtain ⟨g, rfl, hg, hT, hq, hb⟩ := hcut
    clear P1 P2 hA1 hA1d hA1e q0d q0 q1 q2 q3 q4 HQ HBq hsz hidx
    obtain ⟨q0, q1, q2, q3, q4, _⟩ := hq.cells
    have hqs := hq.lt
    have hgs : g < wc.heap.size := (Array.getElem?_eq_some_iff.1 hT).1
    have t2 : wc.cell? ⟨g, 2, none⟩ = some (.func (.func 73) #[] #[]) := by simp [World.cell?, hT]
    have s0 : wc.drew.cell? ⟨g, 2, none⟩ = some (.func (.func 73) #[] #[]) ∧ wc.drew.cell? ⟨w.heap.size, 0, none⟩ = some (.int .i64 op) ∧ wc.drew.cell? ⟨w.heap.size, 1, none⟩ = some (.int .i64 id) ∧ wc.drew.cell? ⟨w.heap.size, 2, none⟩ = some (.string c) ∧ wc.drew.cell? ⟨w.heap.size, 3, none⟩ = some (.int .i64 k) ∧ wc.drew.cell? ⟨w.heap.size, 4, none⟩ = some (.int .i64 rr) := ⟨t2, q0, q1, q2, q3, q4⟩
    have P5 := Lib.hid (fun (w5 : World) (k5 : Below wc.drew.heap.size wc.drew w5) => (⟨hq.of (k5.block _ hqs), hb.drew.trans (k5.mono (Nat.le_of_lt hqs)), (k5.block _ hgs).trans hT⟩ : Rq w5 w.heap.size op id c k rr ∧ Below w.heap.size w w5 ∧ w5.heap[g]? = some (.cells #[.func (.func 71) #[] #[], .func (.func x1) #[] #[], .func (.func 73) #[] #[], .func (.func x3) #[] #[], .func (.func x4) #[] #[], .func (.func x5) #[] #[]] 67 (0, 0))))
    obtain ⟨fb, hfb⟩ : ∃ fb, askF false true true false id c k rr = fb := ⟨_, rfl⟩
    have hNB := hNE fb (by rw [← hfb]; simp [askF])
    rw [hfb] at hres
    clear hNE
    go_upto_region 4 with fail
    go_cut [22] (fun s22 wx => s22 = .bool fb ∧ Rq wx w.heap.size op id c k rr ∧ Below w.heap.size w wx ∧ wx.heap[g]? = some (.cells #[.func (.func 71) #[] #[], .func (.func x1) #[] #[], .func (.func 73) #[] #[], .func (.func x3) #[] #[], .func (.func x4) #[] #[], .func (.func x5) #[] #[]] 67 (0, 0)))
    case first =>
      go_region_held3 (fun W => W.cell? ⟨g, 2, none⟩ = some (.func (.func 73) #[] #[]) ∧ W.cell? ⟨w.heap.size, 0, none⟩ = some (.int .i64 op) ∧ W.cell? ⟨w.heap.size, 1, none⟩ = some (.int .i64 id) ∧ W.cell? ⟨w.heap.size, 2, none⟩ = some (.string c) ∧ W.cell? ⟨w.heap.size, 3, none⟩ = some (.int .i64 k) ∧ W.cell? ⟨w.heap.size, 4, none⟩ = some (.int .i64 rr))
        (first | with_reducible exact s5 | with_reducible exact s0 | fail)
        (first | (go_at_call 73; refine (BR.out wc.drew).mono ?_; rintro x w5 ⟨rfl, k5⟩; obtain ⟨Q5, B5, T5⟩ := P5.out w5 k5; have s5 := (show w5.cell? ⟨g, 2, none⟩ = some (.func (.func 73) #[] #[]) ∧ w5.cell? ⟨w.heap.size, 0, none⟩ = some (.int .i64 op) ∧ w5.cell? ⟨w.heap.size, 1, none⟩ = some (.int .i64 id) ∧ w5.cell? ⟨w.heap.size, 2, none⟩ = some (.string c) ∧ w5.cell? ⟨w.heap.size, 3, none⟩ = some (.int .i64 k) ∧ w5.cell? ⟨w.heap.size, 4, none⟩ = some (.int .i64 rr) from ⟨by simp [World.cell?, T5], Q5.cells.1, Q5.cells.2.1, Q5.cells.2.2.1, Q5.cells.2.2.2.1, Q5.cells.2.2.2.2.1⟩)))
      all_goals (go_wp2_with fail; go_meet; exact ⟨rfl, Q5, B5, T5⟩)
    case rest =>
      obtain ⟨rfl, hq2, hb2, hT2⟩ := hcut
      clear P5 s0 q0 q1 q2 q3 q4 t2 hT hq hb hqs hgs
      have HQ := Lib.hid hq2
      have HBq := Lib.hid hb2
      have HT := Lib.hid hT2
      obtain ⟨q0, q1, q2, q3, q4, _⟩ := hq2.cells
      clear hq2 hb2 hT2
      cases fb
      · obtain ⟨e, he⟩ : ∃ e, lowE id c k rr = e := ⟨_, rfl⟩
        rw [he] at LO hres
        rw [if_neg (by decide)] at hres
        go_wp2_with fail
        refine (LO.out _).mono ?_
        rintro x w6 ⟨rfl, k6⟩
        by_cases h0 : e = 0
        · subst h0
          rw [if_neg (by decide)] at hres
          subst hres
          obtain ⟨n0, n1, n2, n3⟩ := lowE_zero he
          have HQ6 := Lib.hid (HQ.out.of (k6.block _ HQ.out.lt))
          have HT6 := Lib.hid ((k6.block _ (Array.getElem?_eq_some_iff.1 HT.out).1).trans HT.out)
          have HB6 := Lib.hid (HBq.out.trans (k6.mono (Nat.le_of_lt HQ.out.lt)))
          clear k6 he q0 q1 q2 q3 q4 HQ HT HBq
          go_wp2
          have HW := Lib.hid (Wr.new w6)
          have HQ7 := Lib.hid (HQ6.out.alloc (.cells #[.pointer none, .slice none 0 0, .int .i64 0] 87))
          have HT7 := Lib.hid ((Below.heap_alloc w6 (.cells #[.pointer none, .slice none 0 0, .int .i64 0] 87) g (Array.getElem?_eq_some_iff.1 HT6.out).1).trans HT6.out)
          have HB7 := Lib.hid (HB6.out.alloc HB6.out.size (.cells #[.pointer none, .slice none 0 0, .int .i64 0] 87))
          have hqr : w.heap.size ≠ w6.heap.size := by have := HQ6.out.lt; omega
          have hwr : w.heap.size ≤ w6.heap.size := HB6.out.size
          have hgr : g ≠ w6.heap.size := by have := (Array.getElem?_eq_some_iff.1 HT6.out).1; omega
          obtain ⟨r, hr⟩ : ∃ r, w6.heap.size = r := ⟨_, rfl⟩
          generalize w6.alloc (.cells #[.pointer none, .slice none 0 0, .int .i64 0] 87) = w7 at HW HQ7 HT7 HB7 ⊢
          rw [hr] at HW hqr hgr hwr ⊢
          clear HQ6 HT6 HB6 hr
          have hwo : IntKind.u8.wrap op = op := by rw [IntKind.wrap_u8]; omega
          have WA := Lib.hid (HW.out.alloc (.cells #[.int .u8 81, .int .u8 op] 5))
          have WC := Lib.hid (Write_calls r r [] 0 w7.heap.size 81 (UInt8.ofNat op.toNat) (w7.alloc (.cells #[.int .u8 81, .int .u8 op] 5)).drew (WA.out.drewN 1) (by decide) (two_cells w7 op hop) (by have := HW.out.lt; omega))
          have P8 := Lib.hid (fun (w8 : World) (b8 : Below r (w7.alloc (.cells #[.int .u8 81, .int .u8 op] 5)).drew w8) (o8 : Oth (w7.alloc (.cells #[.int .u8 81, .int .u8 op] 5)).drew w8 r) => (⟨(HQ7.out.alloc _).of (o8 _ _ _ _ hqr (by decide) (HQ7.out.alloc _)), (HB7.out.alloc HB7.out.size _).drew.trans (b8.mono hwr), (o8 _ _ _ _ hgr (by decide) ((Below.heap_alloc w7 _ _ (Array.getElem?_eq_some_iff.1 HT7.out).1).trans HT7.out)).trans ((Below.heap_alloc w7 _ _ (Array.getElem?_eq_some_iff.1 HT7.out).1).trans HT7.out)⟩ : Rq w8 w.heap.size op id c k rr ∧ Below w.heap.size w w8 ∧ w8.heap[g]? = some (.cells #[.func (.func 71) #[] #[], .func (.func x1) #[] #[], .func (.func 73) #[] #[], .func (.func x3) #[] #[], .func (.func x4) #[] #[], .func (.func x5) #[] #[]] 67 (0, 0))))
          have q0 : w7.cell? ⟨w.heap.size, 0, none⟩ = some (.int .i64 op) := HQ7.out.cells.1
          have q0d : w7.drew.cell? ⟨w.heap.size, 0, none⟩ = some (.int .i64 op) := q0
          have q0e : ∀ o, (w7.alloc o).drew.cell? ⟨w.heap.size, 0, none⟩ = some (.int .i64 op) := fun o => (HQ7.out.alloc o).cells.1
          have q0f : ∀ o, (w7.alloc o).cell? ⟨w.heap.size, 0, none⟩ = some (.int .i64 op) := fun o => (HQ7.out.alloc o).cells.1
          go_region_held3 (fun W => W.cell? ⟨w.heap.size, 0, none⟩ = some (.int .i64 op))
            (first | with_reducible exact q8 | with_reducible exact q0d | with_reducible exact q0e _ | with_reducible exact q0f _ | fail)
            (first | (go_at_call 33; refine WC.out.mono ?_; rintro x w8 ⟨rfl, h8, b8, o8⟩; obtain ⟨Q8, B8, T8⟩ := P8.out w8 b8 o8; have q8 := Q8.cells.1))
          have HW8 := Lib.hid h8.wr
          have HQ8 := Lib.hid Q8
          have HT8 := Lib.hid T8
          have HB8 := Lib.hid B8
          have c8 : w8.cell? ⟨g, 0, none⟩ = some (.func (.func 71) #[] #[]) := by simp [World.cell?, T8]
          obtain ⟨p0, p1, p2, p3, p4, _⟩ := Q8.cells
          have AK := Lib.hid (operations_7_calls r r ([] ++ [81, UInt8.ofNat op.toNat]) 0 op id c k rr n0 n1 n2 n3 w8 h8.wr (by simp; omega))
          clear h8 b8 o8 Q8 T8 B8 q8 q0 q0d q0e q0f P8 WC WA HQ7 HT7 HB7 HW
          go_wp2_with fail
          refine AK.out.mono ?_
          rintro x w9 ⟨rfl, h9, b9, o9⟩
          have hL : [] ++ [81, UInt8.ofNat op.toNat] ++ vNum c.size ++ c.data.toList ++ vNum k = askB false true true false op id c k rr := by simp [askB, numIf, textIf]
          rw [hL] at h9
          have hne : askB false true true false op id c k rr ≠ [] := by simp [askB]
          have DN := Lib.hid (done_calls r r _ 0 w9 h9 hne)
          have HB9 := Lib.hid (HB8.out.trans (b9.mono hwr))
          rw [if_pos rfl] at DN
          clear h9 b9 o9 c8 p0 p1 p2 p3 p4 HW8 HQ8 HT8 HB8 AK
          generalize hout : askB false true true false op id c k rr = out at DN ⊢
          go_wp2_with fail
          refine DN.out.mono ?_
          rintro x w10 ⟨rfl, b10⟩
          have HB10 := Lib.hid (HB9.out.trans (b10.mono hwr))
          clear b10 HB9
          go_wp2
          go_ret2
          subst hout
          exact ⟨rfl, HB10.out⟩
        · rw [if_pos h0] at hres
          subst hres
          have he2 : (e == 0) = false := by rw [beq_eq_false_iff_ne]; exact h0
          have HB6 := Lib.hid (HBq.out.trans (k6.mono (Nat.le_of_lt HQ.out.lt)))
          clear k6 h0 he
          go_wp2
          go_ret2
          exact ⟨rfl, HB6.out⟩
      · rw [if_pos rfl] at hres
        subst hres
        go_wp2
        go_ret2
        exact ⟨rfl, HBq.out⟩

set_option maxRecDepth 100000 in
set_option maxHeartbeats 1000000 in
theorem ask_5 (op : Int) (hop : 1 ≤ op ∧ op ≤ 9) (x1 x3 x4 x5 : FuncId) (hidx : ∀ W : World, (Instr.index 68 (.agg opsT) (.int .i64 op)).run Try.prog W = .ok (.agg #[.func (.func 74) #[] #[], .func (.func x1) #[] #[], .func (.func 76) #[] #[], .func (.func x3) #[] #[], .func (.func x4) #[] #[], .func (.func x5) #[] #[]]) W) (id : Int) (c : ByteArray) (k rr : Int) (hc : c.size ≤ 140737488351232) (w : World) :
    Calls Try.prog 20 #[.agg #[.int .i64 op, .int .i64 id, .string c, .int .i64 k, .int .i64 rr]] w fun x w' => x = .returned (.tuple #[.string ⟨(askO false true false true op id c k rr).1.toArray⟩, .int .i64 (askO false true false true op id c k rr).2]) ∧ Below w.heap.size w w' := by
  have hbu3 : ∀ W : World, (Instr.build 24 #[(0, .int .i64 op)]).run Try.prog W = .ok (.agg #[.int .i64 op, .int .i64 0, .string ⟨#[]⟩, .int .i64 0, .int .i64 0]) W := fun W => run_build W _ _ _ (by kernel_rfl)
  have hbu1 : ∀ W : World, (Instr.build 87 #[]).run Try.prog W = .ok (.agg #[.pointer none, .slice none 0 0, .int .i64 0]) W := fun W => run_build W _ _ _ (by kernel_rfl)
  have hQ1 : Try.prog.eqGuardType Try.prog.depth 24 = false := by kernel_rfl
  have hNE := fun b hb W => neq_rq op id ⟨#[]⟩ k 0 0 ⟨#[]⟩ 0 0 b hb W
  have K := Lib.hid (fun W => known_calls op W)
  have hkn : decide (1 ≤ op ∧ op ≤ 9) = true := by simpa using hop
  rw [hkn] at K
  have O := Lib.hid (fun W => operations_calls W)
  have BR := Lib.hid (fun W => operations_12_calls op id c k rr W)
  have LO := Lib.hid (fun W => low_calls op id c k rr W)
  have HBq := Lib.hid ((Below.refl w.heap.size w).alloc (Nat.le_refl _) (.cells #[.int .i64 op, .int .i64 id, .string c, .int .i64 k, .int .i64 rr] 24))
  have HQ := Lib.hid (rq_box w op id c k rr)
  obtain ⟨res, hres⟩ : ∃ res, askO false true false true op id c k rr = res := ⟨_, rfl⟩
  rw [hres]
  unfold askO at hres
  clear hkn
  go_enter Try.func20, Try.ntmps20
  go_wp2_with fail
  refine (K.out _).mono ?_
  rintro x y ⟨rfl, rfl⟩
  have hsz : w.heap.size < (w.alloc (.cells #[.int .i64 op, .int .i64 id, .string c, .int .i64 k, .int .i64 rr] 24)).heap.size := by simp
  generalize w.alloc (.cells #[.int .i64 op, .int .i64 id, .string c, .int .i64 k, .int .i64 rr] 24) = w1 at HBq HQ hsz ⊢
  obtain ⟨q0, q1, q2, q3, q4, _⟩ := HQ.out.cells
  have hA1 : ∀ o, (w1.alloc o).cell? ⟨w.heap.size, 0, none⟩ = some (.int .i64 op) := fun o => (HQ.out.alloc o).cells.1
  have hA1d : ∀ o, (w1.alloc o).drew.cell? ⟨w.heap.size, 0, none⟩ = some (.int .i64 op) := fun o => (HQ.out.alloc o).cells.1
  have hA1e : ∀ o, (w1.drew.alloc o).cell? ⟨w.heap.size, 0, none⟩ = some (.int .i64 op) := fun o => (HQ.out.alloc o).cells.1
  have q0d : w1.drew.cell? ⟨w.heap.size, 0, none⟩ = some (.int .i64 op) := q0
  have P1 := Lib.hid (fun (w3 : World) (k3 : Below w1.drew.heap.size w1.drew w3) => (⟨HQ.out.of (k3.block _ hsz), HBq.out.drew.trans (k3.mono (Nat.le_of_lt hsz))⟩ : Rq w3 w.heap.size op id c k rr ∧ Below w.heap.size w w3))
  have P2 := Lib.hid (fun (w3 : World) (k3 : Below (w1.alloc (.cells #[.nilFunc, .nilFunc, .nilFunc, .nilFunc, .nilFunc, .nilFunc] 67)).drew.heap.size (w1.alloc (.cells #[.nilFunc, .nilFunc, .nilFunc, .nilFunc, .nilFunc, .nilFunc] 67)).drew w3) => laid2 w w1 w3 op id c k rr HQ.out HBq.out hsz k3)
  go_upto_region 3 with fail
  go_cut [4] (fun s4 wx => ∃ g : Nat, s4 = .pointer (some ⟨g, 0, none⟩) ∧ w.heap.size < g ∧ wx.heap[g]? = some (.cells #[.func (.func 74) #[] #[], .func (.func x1) #[] #[], .func (.func 76) #[] #[], .func (.func x3) #[] #[], .func (.func x4) #[] #[], .func (.func x5) #[] #[]] 67 (0, 0)) ∧ Rq wx w.heap.size op id c k rr ∧ Below w.heap.size w wx)
  case first =>
    go_region_held3 (fun W => W.cell? ⟨w.heap.size, 0, none⟩ = some (.int .i64 op))
      (first | with_reducible exact e3 | with_reducible exact q0 | with_reducible exact q0d | with_reducible exact hA1 _ | with_reducible exact hA1d _ | with_reducible exact hA1e _ | with_reducible exact hA3 _ | with_reducible exact hS3 _ _ _ _ _ _ | fail)
      (first | (go_at_call 24; refine (O.out w1.drew).mono ?_; rintro x w3 ⟨rfl, k3⟩; obtain ⟨Q3, B3⟩ := P1.out w3 k3; have e3 := Q3.cells.1; have hA3 := fun o => (Q3.alloc o).cells.1) | (go_at_call 24; refine (O.out (w1.alloc (.cells #[.nilFunc, .nilFunc, .nilFunc, .nilFunc, .nilFunc, .nilFunc] 67)).drew).mono ?_; rintro x w3 ⟨rfl, k3⟩; obtain ⟨Q3, B3, T3, tc, t0, t1, t2, t3, t4, t5, hR3⟩ := P2.out w3 k3; have hS3 := (fun v0 v1 v2 v3 v4 v5 => (hR3 v0 v1 v2 v3 v4 v5).1); have e3 := Q3.cells.1))
    all_goals (first | (have hR4 := hR3; (go_wp2_with fail; go_meet; exact ⟨w1.heap.size, rfl, hsz, (hR3 _ _ _ _ _ _).2.1, (hR3 _ _ _ _ _ _).2.2.1, (hR3 _ _ _ _ _ _).2.2.2⟩)) | (go_wp2_with fail; go_meet; exact ⟨w3.heap.size, rfl, Nat.lt_of_lt_of_le (Q3.lt) (Nat.le_refl _), heap_alloc_last _ _, Q3.alloc _, B3.alloc B3.size _⟩))
  case rest =>
    obtain ⟨g, rfl, hg, hT, hq, hb⟩ := hcut
    clear P1 P2 hA1 hA1d hA1e q0d q0 q1 q2 q3 q4 HQ HBq hsz hidx
    obtain ⟨q0, q1, q2, q3, q4, _⟩ := hq.cells
    have hqs := hq.lt
    have hgs : g < wc.heap.size := (Array.getElem?_eq_some_iff.1 hT).1
    have t2 : wc.cell? ⟨g, 2, none⟩ = some (.func (.func 76) #[] #[]) := by simp [World.cell?, hT]
    have s0 : wc.drew.cell? ⟨g, 2, none⟩ = some (.func (.func 76) #[] #[]) ∧ wc.drew.cell? ⟨w.heap.size, 0, none⟩ = some (.int .i64 op) ∧ wc.drew.cell? ⟨w.heap.size, 1, none⟩ = some (.int .i64 id) ∧ wc.drew.cell? ⟨w.heap.size, 2, none⟩ = some (.string c) ∧ wc.drew.cell? ⟨w.heap.size, 3, none⟩ = some (.int .i64 k) ∧ wc.drew.cell? ⟨w.heap.size, 4, none⟩ = some (.int .i64 rr) := ⟨t2, q0, q1, q2, q3, q4⟩
    have P5 := Lib.hid (fun (w5 : World) (k5 : Below wc.drew.heap.size wc.drew w5) => (⟨hq.of (k5.block _ hqs), hb.drew.trans (k5.mono (Nat.le_of_lt hqs)), (k5.block _ hgs).trans hT⟩ : Rq w5 w.heap.size op id c k rr ∧ Below w.heap.size w w5 ∧ w5.heap[g]? = some (.cells #[.func (.func 74) #[] #[], .func (.func x1) #[] #[], .func (.func 76) #[] #[], .func (.func x3) #[] #[], .func (.func x4) #[] #[], .func (.func x5) #[] #[]] 67 (0, 0))))
    obtain ⟨fb, hfb⟩ : ∃ fb, askF false true false true id c k rr = fb := ⟨_, rfl⟩
    have hNB := hNE fb (by rw [← hfb]; simp [askF])
    rw [hfb] at hres
    clear hNE
    go_upto_region 4 with fail
    go_cut [22] (fun s22 wx => s22 = .bool fb ∧ Rq wx w.heap.size op id c k rr ∧ Below w.heap.size w wx ∧ wx.heap[g]? = some (.cells #[.func (.func 74) #[] #[], .func (.func x1) #[] #[], .func (.func 76) #[] #[], .func (.func x3) #[] #[], .func (.func x4) #[] #[], .func (.func x5) #[] #[]] 67 (0, 0)))
    case first =>
      go_region_held3 (fun W => W.cell? ⟨g, 2, none⟩ = some (.func (.func 76) #[] #[]) ∧ W.cell? ⟨w.heap.size, 0, none⟩ = some (.int .i64 op) ∧ W.cell? ⟨w.heap.size, 1, none⟩ = some (.int .i64 id) ∧ W.cell? ⟨w.heap.size, 2, none⟩ = some (.string c) ∧ W.cell? ⟨w.heap.size, 3, none⟩ = some (.int .i64 k) ∧ W.cell? ⟨w.heap.size, 4, none⟩ = some (.int .i64 rr))
        (first | with_reducible exact s5 | with_reducible exact s0 | fail)
        (first | (go_at_call 76; refine (BR.out wc.drew).mono ?_; rintro x w5 ⟨rfl, k5⟩; obtain ⟨Q5, B5, T5⟩ := P5.out w5 k5; have s5 := (show w5.cell? ⟨g, 2, none⟩ = some (.func (.func 76) #[] #[]) ∧ w5.cell? ⟨w.heap.size, 0, none⟩ = some (.int .i64 op) ∧ w5.cell? ⟨w.heap.size, 1, none⟩ = some (.int .i64 id) ∧ w5.cell? ⟨w.heap.size, 2, none⟩ = some (.string c) ∧ w5.cell? ⟨w.heap.size, 3, none⟩ = some (.int .i64 k) ∧ w5.cell? ⟨w.heap.size, 4, none⟩ = some (.int .i64 rr) from ⟨by simp [World.cell?, T5], Q5.cells.1, Q5.cells.2.1, Q5.cells.2.2.1, Q5.cells.2.2.2.1, Q5.cells.2.2.2.2.1⟩)))
      all_goals (go_wp2_with fail; go_meet; exact ⟨rfl, Q5, B5, T5⟩)
    case rest =>
      obtain ⟨rfl, hq2, hb2, hT2⟩ := hcut
      clear P5 s0 q0 q1 q2 q3 q4 t2 hT hq hb hqs hgs
      have HQ := Lib.hid hq2
      have HBq := Lib.hid hb2
      have HT := Lib.hid hT2
      obtain ⟨q0, q1, q2, q3, q4, _⟩ := hq2.cells
      clear hq2 hb2 hT2
      cases fb
      · obtain ⟨e, he⟩ : ∃ e, lowE id c k rr = e := ⟨_, rfl⟩
        rw [he] at LO hres
        rw [if_neg (by decide)] at hres
        go_wp2_with fail
        refine (LO.out _).mono ?_
        rintro x w6 ⟨rfl, k6⟩
        by_cases h0 : e = 0
        · subst h0
          rw [if_neg (by decide)] at hres
          subst hres
          obtain ⟨n0, n1, n2, n3⟩ := lowE_zero he
          have HQ6 := Lib.hid (HQ.out.of (k6.block _ HQ.out.lt))
          have HT6 := Lib.hid ((k6.block _ (Array.getElem?_eq_some_iff.1 HT.out).1).trans HT.out)
          have HB6 := Lib.hid (HBq.out.trans (k6.mono (Nat.le_of_lt HQ.out.lt)))
          clear k6 he q0 q1 q2 q3 q4 HQ HT HBq
          go_wp2
          have HW := Lib.hid (Wr.new w6)
          have HQ7 := Lib.hid (HQ6.out.alloc (.cells #[.pointer none, .slice none 0 0, .int .i64 0] 87))
          have HT7 := Lib.hid ((Below.heap_alloc w6 (.cells #[.pointer none, .slice none 0 0, .int .i64 0] 87) g (Array.getElem?_eq_some_iff.1 HT6.out).1).trans HT6.out)
          have HB7 := Lib.hid (HB6.out.alloc HB6.out.size (.cells #[.pointer none, .slice none 0 0, .int .i64 0] 87))
          have hqr : w.heap.size ≠ w6.heap.size := by have := HQ6.out.lt; omega
          have hwr : w.heap.size ≤ w6.heap.size := HB6.out.size
          have hgr : g ≠ w6.heap.size := by have := (Array.getElem?_eq_some_iff.1 HT6.out).1; omega
          obtain ⟨r, hr⟩ : ∃ r, w6.heap.size = r := ⟨_, rfl⟩
          generalize w6.alloc (.cells #[.pointer none, .slice none 0 0, .int .i64 0] 87) = w7 at HW HQ7 HT7 HB7 ⊢
          rw [hr] at HW hqr hgr hwr ⊢
          clear HQ6 HT6 HB6 hr
          have hwo : IntKind.u8.wrap op = op := by rw [IntKind.wrap_u8]; omega
          have WA := Lib.hid (HW.out.alloc (.cells #[.int .u8 81, .int .u8 op] 5))
          have WC := Lib.hid (Write_calls r r [] 0 w7.heap.size 81 (UInt8.ofNat op.toNat) (w7.alloc (.cells #[.int .u8 81, .int .u8 op] 5)).drew (WA.out.drewN 1) (by decide) (two_cells w7 op hop) (by have := HW.out.lt; omega))
          have P8 := Lib.hid (fun (w8 : World) (b8 : Below r (w7.alloc (.cells #[.int .u8 81, .int .u8 op] 5)).drew w8) (o8 : Oth (w7.alloc (.cells #[.int .u8 81, .int .u8 op] 5)).drew w8 r) => (⟨(HQ7.out.alloc _).of (o8 _ _ _ _ hqr (by decide) (HQ7.out.alloc _)), (HB7.out.alloc HB7.out.size _).drew.trans (b8.mono hwr), (o8 _ _ _ _ hgr (by decide) ((Below.heap_alloc w7 _ _ (Array.getElem?_eq_some_iff.1 HT7.out).1).trans HT7.out)).trans ((Below.heap_alloc w7 _ _ (Array.getElem?_eq_some_iff.1 HT7.out).1).trans HT7.out)⟩ : Rq w8 w.heap.size op id c k rr ∧ Below w.heap.size w w8 ∧ w8.heap[g]? = some (.cells #[.func (.func 74) #[] #[], .func (.func x1) #[] #[], .func (.func 76) #[] #[], .func (.func x3) #[] #[], .func (.func x4) #[] #[], .func (.func x5) #[] #[]] 67 (0, 0))))
          have q0 : w7.cell? ⟨w.heap.size, 0, none⟩ = some (.int .i64 op) := HQ7.out.cells.1
          have q0d : w7.drew.cell? ⟨w.heap.size, 0, none⟩ = some (.int .i64 op) := q0
          have q0e : ∀ o, (w7.alloc o).drew.cell? ⟨w.heap.size, 0, none⟩ = some (.int .i64 op) := fun o => (HQ7.out.alloc o).cells.1
          have q0f : ∀ o, (w7.alloc o).cell? ⟨w.heap.size, 0, none⟩ = some (.int .i64 op) := fun o => (HQ7.out.alloc o).cells.1
          go_region_held3 (fun W => W.cell? ⟨w.heap.size, 0, none⟩ = some (.int .i64 op))
            (first | with_reducible exact q8 | with_reducible exact q0d | with_reducible exact q0e _ | with_reducible exact q0f _ | fail)
            (first | (go_at_call 33; refine WC.out.mono ?_; rintro x w8 ⟨rfl, h8, b8, o8⟩; obtain ⟨Q8, B8, T8⟩ := P8.out w8 b8 o8; have q8 := Q8.cells.1))
          have HW8 := Lib.hid h8.wr
          have HQ8 := Lib.hid Q8
          have HT8 := Lib.hid T8
          have HB8 := Lib.hid B8
          have c8 : w8.cell? ⟨g, 0, none⟩ = some (.func (.func 74) #[] #[]) := by simp [World.cell?, T8]
          obtain ⟨p0, p1, p2, p3, p4, _⟩ := Q8.cells
          have AK := Lib.hid (operations_10_calls r r ([] ++ [81, UInt8.ofNat op.toNat]) 0 op id c k rr n0 n1 n2 n3 w8 h8.wr (by simp; omega))
          clear h8 b8 o8 Q8 T8 B8 q8 q0 q0d q0e q0f P8 WC WA HQ7 HT7 HB7 HW
          go_wp2_with fail
          refine AK.out.mono ?_
          rintro x w9 ⟨rfl, h9, b9, o9⟩
          have hL : [] ++ [81, UInt8.ofNat op.toNat] ++ vNum c.size ++ c.data.toList ++ vNum rr = askB false true false true op id c k rr := by simp [askB, numIf, textIf]
          rw [hL] at h9
          have hne : askB false true false true op id c k rr ≠ [] := by simp [askB]
          have DN := Lib.hid (done_calls r r _ 0 w9 h9 hne)
          have HB9 := Lib.hid (HB8.out.trans (b9.mono hwr))
          rw [if_pos rfl] at DN
          clear h9 b9 o9 c8 p0 p1 p2 p3 p4 HW8 HQ8 HT8 HB8 AK
          generalize hout : askB false true false true op id c k rr = out at DN ⊢
          go_wp2_with fail
          refine DN.out.mono ?_
          rintro x w10 ⟨rfl, b10⟩
          have HB10 := Lib.hid (HB9.out.trans (b10.mono hwr))
          clear b10 HB9
          go_wp2
          go_ret2
          subst hout
          exact ⟨rfl, HB10.out⟩
        · rw [if_pos h0] at hres
          subst hres
          have he2 : (e == 0) = false := by rw [beq_eq_false_iff_ne]; exact h0
          have HB6 := Lib.hid (HBq.out.trans (k6.mono (Nat.le_of_lt HQ.out.lt)))
          clear k6 h0 he
          go_wp2
          go_ret2
          exact ⟨rfl, HB6.out⟩
      · rw [if_pos rfl] at hres
        subst hres
        go_wp2
        go_ret2
        exact ⟨rfl, HBq.out⟩

set_option maxRecDepth 100000 in
set_option maxHeartbeats 1000000 in
theorem ask_6 (op : Int) (hop : 1 ≤ op ∧ op ≤ 9) (x1 x3 x4 x5 : FuncId) (hidx : ∀ W : World, (Instr.index 68 (.agg opsT) (.int .i64 op)).run Try.prog W = .ok (.agg #[.func (.func 48) #[] #[], .func (.func x1) #[] #[], .func (.func 50) #[] #[], .func (.func x3) #[] #[], .func (.func x4) #[] #[], .func (.func x5) #[] #[]]) W) (id : Int) (c : ByteArray) (k rr : Int) (hc : c.size ≤ 140737488351232) (w : World) :
    Calls Try.prog 20 #[.agg #[.int .i64 op, .int .i64 id, .string c, .int .i64 k, .int .i64 rr]] w fun x w' => x = .returned (.tuple #[.string ⟨(askO false false false false op id c k rr).1.toArray⟩, .int .i64 (askO false false false false op id c k rr).2]) ∧ Below w.heap.size w w' := by
  have hbu3 : ∀ W : World, (Instr.build 24 #[(0, .int .i64 op)]).run Try.prog W = .ok (.agg #[.int .i64 op, .int .i64 0, .string ⟨#[]⟩, .int .i64 0, .int .i64 0]) W := fun W => run_build W _ _ _ (by kernel_rfl)
  have hbu1 : ∀ W : World, (Instr.build 87 #[]).run Try.prog W = .ok (.agg #[.pointer none, .slice none 0 0, .int .i64 0]) W := fun W => run_build W _ _ _ (by kernel_rfl)
  have hQ1 : Try.prog.eqGuardType Try.prog.depth 24 = false := by kernel_rfl
  have hNE := fun b hb W => neq_rq op id c k rr 0 ⟨#[]⟩ 0 0 b hb W
  have K := Lib.hid (fun W => known_calls op W)
  have hkn : decide (1 ≤ op ∧ op ≤ 9) = true := by simpa using hop
  rw [hkn] at K
  have O := Lib.hid (fun W => operations_calls W)
  have BR := Lib.hid (fun W => bareNone_calls op id c k rr W)
  have LO := Lib.hid (fun W => low_calls op id c k rr W)
  have HBq := Lib.hid ((Below.refl w.heap.size w).alloc (Nat.le_refl _) (.cells #[.int .i64 op, .int .i64 id, .string c, .int .i64 k, .int .i64 rr] 24))
  have HQ := Lib.hid (rq_box w op id c k rr)
  obtain ⟨res, hres⟩ : ∃ res, askO false false false false op id c k rr = res := ⟨_, rfl⟩
  rw [hres]
  unfold askO at hres
  clear hkn
  go_enter Try.func20, Try.ntmps20
  go_wp2_with fail
  refine (K.out _).mono ?_
  rintro x y ⟨rfl, rfl⟩
  have hsz : w.heap.size < (w.alloc (.cells #[.int .i64 op, .int .i64 id, .string c, .int .i64 k, .int .i64 rr] 24)).heap.size := by simp
  generalize w.alloc (.cells #[.int .i64 op, .int .i64 id, .string c, .int .i64 k, .int .i64 rr] 24) = w1 at HBq HQ hsz ⊢
  obtain ⟨q0, q1, q2, q3, q4, _⟩ := HQ.out.cells
  have hA1 : ∀ o, (w1.alloc o).cell? ⟨w.heap.size, 0, none⟩ = some (.int .i64 op) := fun o => (HQ.out.alloc o).cells.1
  have hA1d : ∀ o, (w1.alloc o).drew.cell? ⟨w.heap.size, 0, none⟩ = some (.int .i64 op) := fun o => (HQ.out.alloc o).cells.1
  have hA1e : ∀ o, (w1.drew.alloc o).cell? ⟨w.heap.size, 0, none⟩ = some (.int .i64 op) := fun o => (HQ.out.alloc o).cells.1
  have q0d : w1.drew.cell? ⟨w.heap.size, 0, none⟩ = some (.int .i64 op) := q0
  have P1 := Lib.hid (fun (w3 : World) (k3 : Below w1.drew.heap.size w1.drew w3) => (⟨HQ.out.of (k3.block _ hsz), HBq.out.drew.trans (k3.mono (Nat.le_of_lt hsz))⟩ : Rq w3 w.heap.size op id c k rr ∧ Below w.heap.size w w3))
  have P2 := Lib.hid (fun (w3 : World) (k3 : Below (w1.alloc (.cells #[.nilFunc, .nilFunc, .nilFunc, .nilFunc, .nilFunc, .nilFunc] 67)).drew.heap.size (w1.alloc (.cells #[.nilFunc, .nilFunc, .nilFunc, .nilFunc, .nilFunc, .nilFunc] 67)).drew w3) => laid2 w w1 w3 op id c k rr HQ.out HBq.out hsz k3)
  go_upto_region 3 with fail
  go_cut [4] (fun s4 wx => ∃ g : Nat, s4 = .pointer (some ⟨g, 0, none⟩) ∧ w.heap.size < g ∧ wx.heap[g]? = some (.cells #[.func (.func 48) #[] #[], .func (.func x1) #[] #[], .func (.func 50) #[] #[], .func (.func x3) #[] #[], .func (.func x4) #[] #[], .func (.func x5) #[] #[]] 67 (0, 0)) ∧ Rq wx w.heap.size op id c k rr ∧ Below w.heap.size w wx)
  case first =>
    go_region_held3 (fun W => W.cell? ⟨w.heap.size, 0, none⟩ = some (.int .i64 op))
      (first | with_reducible exact e3 | with_reducible exact q0 | with_reducible exact q0d | with_reducible exact hA1 _ | with_reducible exact hA1d _ | with_reducible exact hA1e _ | with_reducible exact hA3 _ | with_reducible exact hS3 _ _ _ _ _ _ | fail)
      (first | (go_at_call 24; refine (O.out w1.drew).mono ?_; rintro x w3 ⟨rfl, k3⟩; obtain ⟨Q3, B3⟩ := P1.out w3 k3; have e3 := Q3.cells.1; have hA3 := fun o => (Q3.alloc o).cells.1) | (go_at_call 24; refine (O.out (w1.alloc (.cells #[.nilFunc, .nilFunc, .nilFunc, .nilFunc, .nilFunc, .nilFunc] 67)).drew).mono ?_; rintro x w3 ⟨rfl, k3⟩; obtain ⟨Q3, B3, T3, tc, t0, t1, t2, t3, t4, t5, hR3⟩ := P2.out w3 k3; have hS3 := (fun v0 v1 v2 v3 v4 v5 => (hR3 v0 v1 v2 v3 v4 v5).1); have e3 := Q3.cells.1))
    all_goals (first | (have hR4 := hR3; (go_wp2_with fail; go_meet; exact ⟨w1.heap.size, rfl, hsz, (hR3 _ _ _ _ _ _).2.1, (hR3 _ _ _ _ _ _).2.2.1, (hR3 _ _ _ _ _ _).2.2.2⟩)) | (go_wp2_with fail; go_meet; exact ⟨w3.heap.size, rfl, Nat.lt_of_lt_of_le (Q3.lt) (Nat.le_refl _), heap_alloc_last _ _, Q3.alloc _, B3.alloc B3.size _⟩))
  case rest =>
    obtain ⟨g, rfl, hg, hT, hq, hb⟩ := hcut
    clear P1 P2 hA1 hA1d hA1e q0d q0 q1 q2 q3 q4 HQ HBq hsz hidx
    obtain ⟨q0, q1, q2, q3, q4, _⟩ := hq.cells
    have hqs := hq.lt
    have hgs : g < wc.heap.size := (Array.getElem?_eq_some_iff.1 hT).1
    have t2 : wc.cell? ⟨g, 2, none⟩ = some (.func (.func 50) #[] #[]) := by simp [World.cell?, hT]
    have s0 : wc.drew.cell? ⟨g, 2, none⟩ = some (.func (.func 50) #[] #[]) ∧ wc.drew.cell? ⟨w.heap.size, 0, none⟩ = some (.int .i64 op) ∧ wc.drew.cell? ⟨w.heap.size, 1, none⟩ = some (.int .i64 id) ∧ wc.drew.cell? ⟨w.heap.size, 2, none⟩ = some (.string c) ∧ wc.drew.cell? ⟨w.heap.size, 3, none⟩ = some (.int .i64 k) ∧ wc.drew.cell? ⟨w.heap.size, 4, none⟩ = some (.int .i64 rr) := ⟨t2, q0, q1, q2, q3, q4⟩
    have P5 := Lib.hid (fun (w5 : World) (k5 : Below wc.drew.heap.size wc.drew w5) => (⟨hq.of (k5.block _ hqs), hb.drew.trans (k5.mono (Nat.le_of_lt hqs)), (k5.block _ hgs).trans hT⟩ : Rq w5 w.heap.size op id c k rr ∧ Below w.heap.size w w5 ∧ w5.heap[g]? = some (.cells #[.func (.func 48) #[] #[], .func (.func x1) #[] #[], .func (.func 50) #[] #[], .func (.func x3) #[] #[], .func (.func x4) #[] #[], .func (.func x5) #[] #[]] 67 (0, 0))))
    obtain ⟨fb, hfb⟩ : ∃ fb, askF false false false false id c k rr = fb := ⟨_, rfl⟩
    have hNB := hNE fb (by rw [← hfb]; simp [askF])
    rw [hfb] at hres
    clear hNE
    go_upto_region 4 with fail
    go_cut [22] (fun s22 wx => s22 = .bool fb ∧ Rq wx w.heap.size op id c k rr ∧ Below w.heap.size w wx ∧ wx.heap[g]? = some (.cells #[.func (.func 48) #[] #[], .func (.func x1) #[] #[], .func (.func 50) #[] #[], .func (.func x3) #[] #[], .func (.func x4) #[] #[], .func (.func x5) #[] #[]] 67 (0, 0)))
    case first =>
      go_region_held3 (fun W => W.cell? ⟨g, 2, none⟩ = some (.func (.func 50) #[] #[]) ∧ W.cell? ⟨w.heap.size, 0, none⟩ = some (.int .i64 op) ∧ W.cell? ⟨w.heap.size, 1, none⟩ = some (.int .i64 id) ∧ W.cell? ⟨w.heap.size, 2, none⟩ = some (.string c) ∧ W.cell? ⟨w.heap.size, 3, none⟩ = some (.int .i64 k) ∧ W.cell? ⟨w.heap.size, 4, none⟩ = some (.int .i64 rr))
        (first | with_reducible exact s5 | with_reducible exact s0 | fail)
        (first | (go_at_call 50; refine (BR.out wc.drew).mono ?_; rintro x w5 ⟨rfl, k5⟩; obtain ⟨Q5, B5, T5⟩ := P5.out w5 k5; have s5 := (show w5.cell? ⟨g, 2, none⟩ = some (.func (.func 50) #[] #[]) ∧ w5.cell? ⟨w.heap.size, 0, none⟩ = some (.int .i64 op) ∧ w5.cell? ⟨w.heap.size, 1, none⟩ = some (.int .i64 id) ∧ w5.cell? ⟨w.heap.size, 2, none⟩ = some (.string c) ∧ w5.cell? ⟨w.heap.size, 3, none⟩ = some (.int .i64 k) ∧ w5.cell? ⟨w.heap.size, 4, none⟩ = some (.int .i64 rr) from ⟨by simp [World.cell?, T5], Q5.cells.1, Q5.cells.2.1, Q5.cells.2.2.1, Q5.cells.2.2.2.1, Q5.cells.2.2.2.2.1⟩)))
      all_goals (go_wp2_with fail; go_meet; exact ⟨rfl, Q5, B5, T5⟩)
    case rest =>
      obtain ⟨rfl, hq2, hb2, hT2⟩ := hcut
      clear P5 s0 q0 q1 q2 q3 q4 t2 hT hq hb hqs hgs
      have HQ := Lib.hid hq2
      have HBq := Lib.hid hb2
      have HT := Lib.hid hT2
      obtain ⟨q0, q1, q2, q3, q4, _⟩ := hq2.cells
      clear hq2 hb2 hT2
      cases fb
      · obtain ⟨e, he⟩ : ∃ e, lowE id c k rr = e := ⟨_, rfl⟩
        rw [he] at LO hres
        rw [if_neg (by decide)] at hres
        go_wp2_with fail
        refine (LO.out _).mono ?_
        rintro x w6 ⟨rfl, k6⟩
        by_cases h0 : e = 0
        · subst h0
          rw [if_neg (by decide)] at hres
          subst hres
          obtain ⟨n0, n1, n2, n3⟩ := lowE_zero he
          have HQ6 := Lib.hid (HQ.out.of (k6.block _ HQ.out.lt))
          have HT6 := Lib.hid ((k6.block _ (Array.getElem?_eq_some_iff.1 HT.out).1).trans HT.out)
          have HB6 := Lib.hid (HBq.out.trans (k6.mono (Nat.le_of_lt HQ.out.lt)))
          clear k6 he q0 q1 q2 q3 q4 HQ HT HBq
          go_wp2
          have HW := Lib.hid (Wr.new w6)
          have HQ7 := Lib.hid (HQ6.out.alloc (.cells #[.pointer none, .slice none 0 0, .int .i64 0] 87))
          have HT7 := Lib.hid ((Below.heap_alloc w6 (.cells #[.pointer none, .slice none 0 0, .int .i64 0] 87) g (Array.getElem?_eq_some_iff.1 HT6.out).1).trans HT6.out)
          have HB7 := Lib.hid (HB6.out.alloc HB6.out.size (.cells #[.pointer none, .slice none 0 0, .int .i64 0] 87))
          have hqr : w.heap.size ≠ w6.heap.size := by have := HQ6.out.lt; omega
          have hwr : w.heap.size ≤ w6.heap.size := HB6.out.size
          have hgr : g ≠ w6.heap.size := by have := (Array.getElem?_eq_some_iff.1 HT6.out).1; omega
          obtain ⟨r, hr⟩ : ∃ r, w6.heap.size = r := ⟨_, rfl⟩
          generalize w6.alloc (.cells #[.pointer none, .slice none 0 0, .int .i64 0] 87) = w7 at HW HQ7 HT7 HB7 ⊢
          rw [hr] at HW hqr hgr hwr ⊢
          clear HQ6 HT6 HB6 hr
          have hwo : IntKind.u8.wrap op = op := by rw [IntKind.wrap_u8]; omega
          have WA := Lib.hid (HW.out.alloc (.cells #[.int .u8 81, .int .u8 op] 5))
          have WC := Lib.hid (Write_calls r r [] 0 w7.heap.size 81 (UInt8.ofNat op.toNat) (w7.alloc (.cells #[.int .u8 81, .int .u8 op] 5)).drew (WA.out.drewN 1) (by decide) (two_cells w7 op hop) (by have := HW.out.lt; omega))
          have P8 := Lib.hid (fun (w8 : World) (b8 : Below r (w7.alloc (.cells #[.int .u8 81, .int .u8 op] 5)).drew w8) (o8 : Oth (w7.alloc (.cells #[.int .u8 81, .int .u8 op] 5)).drew w8 r) => (⟨(HQ7.out.alloc _).of (o8 _ _ _ _ hqr (by decide) (HQ7.out.alloc _)), (HB7.out.alloc HB7.out.size _).drew.trans (b8.mono hwr), (o8 _ _ _ _ hgr (by decide) ((Below.heap_alloc w7 _ _ (Array.getElem?_eq_some_iff.1 HT7.out).1).trans HT7.out)).trans ((Below.heap_alloc w7 _ _ (Array.getElem?_eq_some_iff.1 HT7.out).1).trans HT7.out)⟩ : Rq w8 w.heap.size op id c k rr ∧ Below w.heap.size w w8 ∧ w8.heap[g]? = some (.cells #[.func (.func 48) #[] #[], .func (.func x1) #[] #[], .func (.func 50) #[] #[], .func (.func x3) #[] #[], .func (.func x4) #[] #[], .func (.func x5) #[] #[]] 67 (0, 0))))
          have q0 : w7.cell? ⟨w.heap.size, 0, none⟩ = some (.int .i64 op) := HQ7.out.cells.1
          have q0d : w7.drew.cell? ⟨w.heap.size, 0, none⟩ = some (.int .i64 op) := q0
          have q0e : ∀ o, (w7.alloc o).drew.cell? ⟨w.heap.size, 0, none⟩ = some (.int .i64 op) := fun o => (HQ7.out.alloc o).cells.1
          have q0f : ∀ o, (w7.alloc o).cell? ⟨w.heap.size, 0, none⟩ = some (.int .i64 op) := fun o => (HQ7.out.alloc o).cells.1
          go_region_held3 (fun W => W.cell? ⟨w.heap.size, 0, none⟩ = some (.int .i64 op))
            (first | with_reducible exact q8 | with_reducible exact q0d | with_reducible exact q0e _ | with_reducible exact q0f _ | fail)
            (first | (go_at_call 33; refine WC.out.mono ?_; rintro x w8 ⟨rfl, h8, b8, o8⟩; obtain ⟨Q8, B8, T8⟩ := P8.out w8 b8 o8; have q8 := Q8.cells.1))
          have HW8 := Lib.hid h8.wr
          have HQ8 := Lib.hid Q8
          have HT8 := Lib.hid T8
          have HB8 := Lib.hid B8
          have c8 : w8.cell? ⟨g, 0, none⟩ = some (.func (.func 48) #[] #[]) := by simp [World.cell?, T8]
          obtain ⟨p0, p1, p2, p3, p4, _⟩ := Q8.cells
          have AK := Lib.hid (nothing_calls r r ([] ++ [81, UInt8.ofNat op.toNat]) 0 op id c k rr n0 n1 n2 n3 w8 h8.wr (by simp; omega))
          clear h8 b8 o8 Q8 T8 B8 q8 q0 q0d q0e q0f P8 WC WA HQ7 HT7 HB7 HW
          go_wp2_with fail
          refine AK.out.mono ?_
          rintro x w9 ⟨rfl, h9, b9, o9⟩
          have hL : [] ++ [81, UInt8.ofNat op.toNat] = askB false false false false op id c k rr := by simp [askB, numIf, textIf]
          rw [hL] at h9
          have hne : askB false false false false op id c k rr ≠ [] := by simp [askB]
          have DN := Lib.hid (done_calls r r _ 0 w9 h9 hne)
          have HB9 := Lib.hid (HB8.out.trans (b9.mono hwr))
          rw [if_pos rfl] at DN
          clear h9 b9 o9 c8 p0 p1 p2 p3 p4 HW8 HQ8 HT8 HB8 AK
          generalize hout : askB false false false false op id c k rr = out at DN ⊢
          go_wp2_with fail
          refine DN.out.mono ?_
          rintro x w10 ⟨rfl, b10⟩
          have HB10 := Lib.hid (HB9.out.trans (b10.mono hwr))
          clear b10 HB9
          go_wp2
          go_ret2
          subst hout
          exact ⟨rfl, HB10.out⟩
        · rw [if_pos h0] at hres
          subst hres
          have he2 : (e == 0) = false := by rw [beq_eq_false_iff_ne]; exact h0
          have HB6 := Lib.hid (HBq.out.trans (k6.mono (Nat.le_of_lt HQ.out.lt)))
          clear k6 h0 he
          go_wp2
          go_ret2
          exact ⟨rfl, HB6.out⟩
      · rw [if_pos rfl] at hres
        subst hres
        go_wp2
        go_ret2
        exact ⟨rfl, HBq.out⟩

set_option maxRecDepth 100000 in
theorem ask_none (op id : Int) (c : ByteArray) (k rr : Int) (hop : ¬ (1 ≤ op ∧ op ≤ 9)) (w : World) :
    Calls Try.prog 20 #[.agg #[.int .i64 op, .int .i64 id, .string c, .int .i64 k, .int .i64 rr]] w fun x w' => x = .returned (.tuple #[.string ⟨#[]⟩, .int .i64 35]) ∧ Below w.heap.size w w' := by
  have K := Lib.hid (fun W => known_calls op W)
  have hkn : decide (1 ≤ op ∧ op ≤ 9) = false := by simpa using hop
  rw [hkn] at K
  have HBq := Lib.hid ((Below.refl w.heap.size w).alloc (Nat.le_refl _) (.cells #[.int .i64 op, .int .i64 id, .string c, .int .i64 k, .int .i64 rr] 24))
  go_enter Try.func20, Try.ntmps20
  go_wp2_with fail
  refine (K.out _).mono ?_
  rintro x y ⟨rfl, rfl⟩
  go_wp2
  go_ret2
  exact ⟨rfl, HBq.out⟩
theorem askOut_in (op id : Int) (c : ByteArray) (k rr : Int) (h : 1 ≤ op ∧ op ≤ 9) : askOut op id c k rr = askO (nm' op).1 (nm' op).2.1 (nm' op).2.2.1 (nm' op).2.2.2 op id c k rr := by
  unfold askOut askO
  rw [if_neg (by simpa using h)]
theorem Ask_calls (op id : Int) (c : ByteArray) (k rr : Int) (hc : c.size ≤ 140737488351232) (w : World) :
    Calls Try.prog 20 #[.agg #[.int .i64 op, .int .i64 id, .string c, .int .i64 k, .int .i64 rr]] w fun x w' => x = .returned (.tuple #[.string ⟨(askOut op id c k rr).1.toArray⟩, .int .i64 (askOut op id c k rr).2]) ∧ Below w.heap.size w w' := by
  by_cases hop : 1 ≤ op ∧ op ≤ 9
  · rw [askOut_in _ _ _ _ _ hop]
    have hc9 : op = 1 ∨ op = 2 ∨ op = 3 ∨ op = 4 ∨ op = 5 ∨ op = 6 ∨ op = 7 ∨ op = 8 ∨ op = 9 := by omega
    rcases hc9 with rfl | rfl | rfl | rfl | rfl | rfl | rfl | rfl | rfl
    · exact ask_1 1 hop _ _ _ _ opsAt1 id c k rr hc w
    · exact ask_2 2 hop _ _ _ _ opsAt2 id c k rr hc w
    · exact ask_2 3 hop _ _ _ _ opsAt3 id c k rr hc w
    · exact ask_4 4 hop _ _ _ _ opsAt4 id c k rr hc w
    · exact ask_5 5 hop _ _ _ _ opsAt5 id c k rr hc w
    · exact ask_6 6 hop _ _ _ _ opsAt6 id c k rr hc w
    · exact ask_6 7 hop _ _ _ _ opsAt7 id c k rr hc w
    · exact ask_6 8 hop _ _ _ _ opsAt8 id c k rr hc w
    · exact ask_6 9 hop _ _ _ _ opsAt9 id c k rr hc w
  · unfold askOut
    rw [if_pos hop]
    exact ask_none op id c k rr hop w
end Go.Proofs.Ytabhjkaheghbhaa

/-
  WALK: a hit put on a pile that has it not.
-/
import Derived.Test.YtmfanldekjkbiaaDoorPut
import Derived.Deep.RegionHeld3
import Derived.Deep.LoopGhost
import Derived.Deep.DeepCutAuto
import Derived.Outline
namespace Go.Proofs.YtmfanldekjkbiaaDoor
open Go.RowKit
set_option linter.unusedVariables false

/-- What holds at the head of each round: element k may stand too low. -/
def UpRel (w : World) (pb mb : Nat) (v v1 : Value) (M : List Hv) (g : Nat) (si : Value) (wr : World) : Prop :=
  ∃ (k : Nat) (Lk : List Hv), si = .int .i64 k ∧ PileIs wr pb mb v1 Lk ∧ HeapUp Lk k ∧ k < Lk.length ∧ Lk.Perm M ∧ Fr w wr [some pb, some mb, v.ownBlock] ∧ k + 1 ≤ g

theorem box3 {w : World} {b : Nat} {x y z : Value} {t : TypeId} (h : w.heap[b]? = some (.cells #[x, y, z] t (0, 0))) :
    w.cell? ⟨b, 0, none⟩ = some x ∧ w.cell? ⟨b, 1, none⟩ = some y ∧ w.cell? ⟨b, 2, none⟩ = some z ∧ ∀ j, w.frozen? ⟨b, j, none⟩ = false := by
  refine ⟨?_, ?_, ?_, fun j => ?_⟩ <;> simp [World.cell?, World.frozen?, h]

/-- The pile with the hit behind the others. -/
def PutMid (w : World) (pb mb : Nat) (v : Value) (L : List Hv) (h : Hv) (w' : World) : Prop :=
  ∃ v', PileIs w' pb mb v' (L ++ [h]) ∧ Fr w w' [some pb, some mb, v.ownBlock] ∧ (v'.ownBlock = v.ownBlock ∨ ∃ g, v'.ownBlock = some g ∧ w.heap.size ≤ g)

theorem putMid_of {w W1 W2 w1 : World} {pb mb g cap : Nat} {v : Value} {L : List Hv} {h : Hv} {o : Obj} (hP : PileIs W1 pb mb v L) (hG : Gr w W1) (hHas : HasIs W2 mb (h :: L)) (hgr : W1.drew.grownBy W2 (some mb))
    (hown : w1.ownsRow 0 36 3 (.slice (some ⟨g, 0, none⟩) (L.length + 1) cap) (L.length + 1) (encH L ++ h.cells)) (hgrow : (W2.drew.alloc o).grownBy w1 v.ownBlock) (hat : v.ownBlock = some g ∨ g = W2.heap.size + 1) (hg : GoodH h) (hm : h ∉ L) :
    PutMid w pb mb v L h (w1.setCell ⟨pb, 0, none⟩ (.slice (some ⟨g, 0, none⟩) (L.length + 1) cap)) := by
  obtain ⟨a1, a2, a3⟩ := hP.apart
  have hpl := hP.lt
  have hml := hP.has.lt
  have hsz : W1.heap.size ≤ W2.heap.size := hgr.size
  have hgpb : g ≠ pb := by
    rcases hat with k | k
    · intro e; subst e; exact a2 k
    · omega
  have hbp : w1.heap[pb]? = W1.heap[pb]? :=
    (hgrow.block pb (by simp; omega) (fun e => a2 e.symm)).trans ((Below.heap_alloc W2.drew o pb (show pb < W2.heap.size by omega)).trans (hgr.block pb hpl (fun e => a1 (Option.some.inj e).symm)))
  have hbm : w1.heap[mb]? = W2.heap[mb]? :=
    (hgrow.block mb (by simp; omega) (fun e => a3 e.symm)).trans (Below.heap_alloc W2.drew o mb (show mb < W2.heap.size by omega))
  refine ⟨.slice (some ⟨g, 0, none⟩) (L.length + 1) cap, ⟨?_, ?_, ?_, ?_, ?_⟩, ?_, ?_⟩
  · simp [World.setCell, Array.getElem?_modify, hbp, hP.box]
  · rw [encH_snoc, List.length_append, List.length_singleton]
    exact own_setCell hown (p := ⟨pb, 0, none⟩) (fun e => hgpb (Option.some.inj (show some g = some pb from e))) _
  · refine ((hHas.of (w' := w1) hbm).of (w' := w1.setCell ⟨pb, 0, none⟩ _) (Below.heap_setCell _ _ _ _ a1)).perm ?_
    exact (List.perm_append_singleton h L).symm
  · exact (List.perm_append_singleton h L).symm.nodup_iff.1 (List.nodup_cons.2 ⟨hm, hP.nodup⟩)
  · intro x hx
    rcases List.mem_append.1 hx with hx | hx
    · exact hP.good x hx
    · rw [List.mem_singleton.1 hx]; exact hg
  · have f1 : Fr w W1 [some pb, some mb, v.ownBlock] := Fr.of_gr hG _
    have f2 : Fr w W2 [some pb, some mb, v.ownBlock] := (f1.drew).grown hgr (fun k e _ => by cases e; simp)
    exact (((f2.drew).alloc o).grown hgrow (fun k e _ => by rw [e]; simp)).setCell (fun _ => by simp) _
  · rcases hat with k | k
    · exact .inl k.symm
    · exact .inr ⟨g, rfl, by have := hG.below.size; omega⟩

/-- An element laid anew. -/
theorem own_set3 {w : World} {base : Nat} {e : TypeId} {g m c n : Nat} {F : List Hv} (h : w.ownsRow base e 3 (.slice (some ⟨g, 0, none⟩) m c) n (encH F)) (hmn : n = m) (j : Nat) (x : Hv) :
    (((w.setCell ⟨g, j * 3, none⟩ (.int .i64 x.d)).setCell ⟨g, j * 3 + 1, none⟩ (.int .i64 x.i)).setCell ⟨g, j * 3 + 2, none⟩ (.string x.c)).ownsRow base e 3 (.slice (some ⟨g, 0, none⟩) m c) n (encH (F.set j x)) := by
  subst hmn; exact own_setH h j x

theorem PileIs.swap {w : World} {pb mb g m cap : Nat} {L : List Hv} (h : PileIs w pb mb (.slice (some ⟨g, 0, none⟩) m cap) L) (hm : L.length = m) {i j : Nat} (hi : i < L.length) (hj : j < L.length) :
    PileIs ((((((w.setCell ⟨g, i * 3, none⟩ (.int .i64 (hd L j).d)).setCell ⟨g, i * 3 + 1, none⟩ (.int .i64 (hd L j).i)).setCell ⟨g, i * 3 + 2, none⟩ (.string (hd L j).c)).setCell
      ⟨g, j * 3, none⟩ (.int .i64 (hd L i).d)).setCell ⟨g, j * 3 + 1, none⟩ (.int .i64 (hd L i).i)).setCell ⟨g, j * 3 + 2, none⟩ (.string (hd L i).c)) pb mb (.slice (some ⟨g, 0, none⟩) m cap) (swp L i j) := by
  obtain ⟨_, a2, a3⟩ := h.apart
  have b1 : ∀ (W : World) k u, (W.setCell ⟨g, k, none⟩ u).heap[pb]? = W.heap[pb]? := fun W k u => Below.heap_setCell _ _ _ _ (fun e => a2 (by rw [e]; rfl))
  have b2 : ∀ (W : World) k u, (W.setCell ⟨g, k, none⟩ u).heap[mb]? = W.heap[mb]? := fun W k u => Below.heap_setCell _ _ _ _ (fun e => a3 (by rw [e]; rfl))
  have hp : (swp L i j).Perm L := swp_perm hi hj
  refine ⟨by simp only [b1]; exact h.box, ?_, (h.has.of (by simp only [b2])).perm hp.symm, hp.nodup_iff.2 h.nodup, fun x hx => h.good x (hp.mem_iff.1 hx)⟩
  have r1 := own_set3 (own_set3 h.row hm i (hd L j)) hm j (hd L i)
  rw [swp_length]
  exact r1

theorem Fr.set1 {a w : World} {S : List (Option Nat)} (h : Fr a w S) {g : Nat} (hg : some g ∈ S ∨ a.heap.size ≤ g) (i : Nat) (u : Value) : Fr a (w.setCell ⟨g, i, none⟩ u) S :=
  h.setCell (p := ⟨g, i, none⟩) (fun hlt => hg.elim id (fun k => absurd hlt (Nat.not_lt.2 k))) u

theorem put_end {w wr : World} {pb mb : Nat} {v v1 : Value} {L M Lk : List Hv} {h : Hv} (hP : PileIs wr pb mb v1 Lk) (hH : HeapH Lk) (hp : Lk.Perm M) (hq : M.Perm (h :: L)) (hm : h ∉ L) (hF : Fr w wr [some pb, some mb, v.ownBlock])
    (hO : v1.ownBlock = v.ownBlock ∨ ∃ g, v1.ownBlock = some g ∧ w.heap.size ≤ g) : PutPost w pb mb v L h (.returned (.bool true)) wr :=
  ⟨by simp [hm], v1, Lk, hP, hH, by rw [if_neg hm]; exact hp.trans hq, hF, hO⟩

theorem upRel_swap {w w' : World} {pb mb g cap k p : Nat} {v : Value} {M Lk : List Hv} (hP : PileIs w' pb mb (.slice (some ⟨g, 0, none⟩) M.length cap) Lk) (hF : Fr w w' [some pb, some mb, v.ownBlock]) (hU : HeapUp Lk k)
    (hO : (Value.slice (some ⟨g, 0, none⟩) M.length cap).ownBlock = v.ownBlock ∨ ∃ g', (Value.slice (some ⟨g, 0, none⟩) M.length cap).ownBlock = some g' ∧ w.heap.size ≤ g') (hll : Lk.length = M.length) (hkl : k < Lk.length) (hpk : Lk.Perm M) (hp : (k - 1) / 2 = p) (hpl : p < Lk.length) (hk : 0 < k) (hl : hless (hd Lk p) (hd Lk k)) :
    UpRel w pb mb v (.slice (some ⟨g, 0, none⟩) M.length cap) M (p + 1) (.int .i64 p) ((((((w'.setCell ⟨g, k * 3, none⟩ (.int .i64 (hd Lk p).d)).setCell ⟨g, k * 3 + 1, none⟩ (.int .i64 (hd Lk p).i)).setCell ⟨g, k * 3 + 2, none⟩ (.string (hd Lk p).c)).setCell
      ⟨g, p * 3, none⟩ (.int .i64 (hd Lk k).d)).setCell ⟨g, p * 3 + 1, none⟩ (.int .i64 (hd Lk k).i)).setCell ⟨g, p * 3 + 2, none⟩ (.string (hd Lk k).c)).drew := by
  have hgO : some g ∈ [some pb, some mb, v.ownBlock] ∨ w.heap.size ≤ g := by
    rcases hO with e | ⟨g', e, k'⟩
    · left; rw [← e]; simp [Value.ownBlock]
    · right; obtain rfl : g = g' := Option.some.inj e; exact k'
  refine ⟨p, swp Lk k p, rfl, (hP.swap hll hkl hpl).gr ((Gr.refl _).drew), ?_, by rw [swp_length]; exact hpl, (swp_perm hkl hpl).trans hpk, ?_, Nat.le_refl _⟩
  · rw [← hp]; exact heapUp_step hU hkl hk (by rw [hp]; exact hl)
  · exact ((((((hF.set1 hgO _ _).set1 hgO _ _).set1 hgO _ _).set1 hgO _ _).set1 hgO _ _).set1 hgO _ _).drew

set_option maxRecDepth 100000 in
set_option maxHeartbeats 4000000 in
theorem put_new (pb mb : Nat) (v : Value) (L : List Hv) (h : Hv) (hg : GoodH h) (hm : h ∉ L) (hH : HeapH L) (hn : (L.length + 1) * 32 ≤ 140737488355328) (w : World) (hP : PileIs w pb mb v L) :
    Calls Tryd.prog 46 #[.pointer (some ⟨pb, 0, none⟩), h.val] w (PutPost w pb mb v L h) := by
  obtain ⟨i0, hi0, hz0, hz1, hz2⟩ := info_parts hitinfo
  have HG : Gr w (w.alloc (.cells #[.int .i64 h.d, .int .i64 h.i, .string h.c] 36)) := (Gr.refl w).alloc _
  have hP1 := hP.gr HG
  have b0 := World.alloc_heap_new w (.cells #[.int .i64 h.d, .int .i64 h.i, .string h.c] 36)
  simp only [Hv.val]
  go_enter Tryd.func46, Tryd.ntmps46
  go_wp2
  generalize w.alloc (.cells #[.int .i64 h.d, .int .i64 h.i, .string h.c] 36) = wb at hP1 b0 HG ⊢
  obtain ⟨c0, c1, c2, cf⟩ := hP1.cells
  have k0 : wb.cell? ⟨w.heap.size, 0, none⟩ = some (.int .i64 h.d) := by simp [World.cell?, b0]
  have k1 : wb.cell? ⟨w.heap.size, 1, none⟩ = some (.int .i64 h.i) := by simp [World.cell?, b0]
  have k2 : wb.cell? ⟨w.heap.size, 2, none⟩ = some (.string h.c) := by simp [World.cell?, b0]
  have c2a : ∀ o, (wb.alloc o).cell? ⟨pb, 2, none⟩ = some (.map (some mb)) := fun o => (World.cell?_alloc_lt _ _ ⟨pb, 2, none⟩ (hP1.lt)).trans c2
  have k0a : ∀ o, (wb.alloc o).cell? ⟨w.heap.size, 0, none⟩ = some (.int .i64 h.d) := fun o => (World.cell?_alloc_lt _ _ ⟨w.heap.size, 0, none⟩ (cell_ltH k0)).trans k0
  have k1a : ∀ o, (wb.alloc o).cell? ⟨w.heap.size, 1, none⟩ = some (.int .i64 h.i) := fun o => (World.cell?_alloc_lt _ _ ⟨w.heap.size, 1, none⟩ (cell_ltH k1)).trans k1
  have k2a : ∀ o, (wb.alloc o).cell? ⟨w.heap.size, 2, none⟩ = some (.string h.c) := fun o => (World.cell?_alloc_lt _ _ ⟨w.heap.size, 2, none⟩ (cell_ltH k2)).trans k2
  have l0 : (Instr.lookup 97 (.map (some mb)) (.agg #[.int .i64 h.d, .int .i64 h.i, .string h.c]) true).run Tryd.prog wb.drew = .ok (.tuple #[.agg #[], .bool false]) wb.drew := by
    have := (hP1.has.of (w' := wb.drew) rfl).look hg
    simp only [hm, decide_false] at this
    exact this
  have l1 : ∀ o, (Instr.lookup 97 (.map (some mb)) (.agg #[.int .i64 h.d, .int .i64 h.i, .string h.c]) true).run Tryd.prog (wb.alloc o).drew = .ok (.tuple #[.agg #[], .bool false]) (wb.alloc o).drew := fun o => by
    have := (hP1.has.of (w' := (wb.alloc o).drew) (Below.heap_alloc _ _ _ hP1.has.lt)).look hg
    simp only [hm, decide_false] at this
    exact this
  clear c0 c1 cf hP
  have HH := Lib.hid hH
  clear hH
  go_region
  obtain ⟨W1, hW1⟩ : ∃ W, (wb.alloc (.cells #[] 94)).drew = W := ⟨_, rfl⟩
  have HG1 : Gr wb W1 := by rw [← hW1]; exact ((Gr.refl wb).alloc _).drew
  have hP2 := hP1.gr HG1
  have b1 : W1.heap[w.heap.size]? = some (.cells #[.int .i64 h.d, .int .i64 h.i, .string h.c] 36 (0, 0)) := (HG1.below.block _ (Array.getElem?_eq_some_iff.1 b0).1).trans b0
  rw [hW1]
  clear l0 l1 k0 k1 k2 k0a k1a k2a c2 c2a hP1 hW1
  obtain ⟨c0, c1, c2, cf⟩ := hP2.cells
  have k0 : W1.cell? ⟨w.heap.size, 0, none⟩ = some (.int .i64 h.d) := by simp [World.cell?, b1]
  have k1 : W1.cell? ⟨w.heap.size, 1, none⟩ = some (.int .i64 h.i) := by simp [World.cell?, b1]
  have k2 : W1.cell? ⟨w.heap.size, 2, none⟩ = some (.string h.c) := by simp [World.cell?, b1]
  have hbu : ∀ W : World, (Instr.build 94 #[]).run Tryd.prog W = .ok (.agg #[]) W := fun W => run_build W _ _ _ (by kernel_rfl)
  obtain ⟨W2, hr, hHas, hgr⟩ := (hP2.has.of (w' := W1.drew) rfl).put hg hP2.good hm (by unfold maxLen; omega)
  simp only [Hv.val] at hr
  clear c0 c1 cf
  go_wp2
  go_region
  obtain ⟨a1, a2, a3⟩ := hP2.apart
  have hpl := hP2.lt
  have hbb := (Array.getElem?_eq_some_iff.1 b1).1
  have hmb : w.heap.size ≠ mb := fun e => by
    obtain ⟨D, ⟨es, cl, k, _⟩, _⟩ := hP2.has
    rw [← e, b1] at k; cases k
  have cc0 : W2.cell? ⟨pb, 0, none⟩ = some v := (hgr.cell_far ⟨pb, 0, none⟩ hpl (fun e => a1 (Option.some.inj e).symm)).trans hP2.cells.1
  have cf0 : W2.frozen? ⟨pb, 0, none⟩ = false := (hgr.frozen_far ⟨pb, 0, none⟩ hpl (fun e => a1 (Option.some.inj e).symm)).trans (hP2.cells.2.2.2 0)
  have kk0 : W2.cell? ⟨w.heap.size, 0, none⟩ = some (.int .i64 h.d) := (hgr.cell_far ⟨w.heap.size, 0, none⟩ hbb (fun e => hmb (Option.some.inj e))).trans k0
  have kk1 : W2.cell? ⟨w.heap.size, 1, none⟩ = some (.int .i64 h.i) := (hgr.cell_far ⟨w.heap.size, 1, none⟩ hbb (fun e => hmb (Option.some.inj e))).trans k1
  have kk2 : W2.cell? ⟨w.heap.size, 2, none⟩ = some (.string h.c) := (hgr.cell_far ⟨w.heap.size, 2, none⟩ hbb (fun e => hmb (Option.some.inj e))).trans k2
  have cc0a : ∀ o, (W2.alloc o).cell? ⟨pb, 0, none⟩ = some v := fun o => (World.cell?_alloc_lt _ _ ⟨pb, 0, none⟩ (cell_ltH cc0)).trans cc0
  have hrow : W2.ownsRow 0 36 3 v L.length (encH L) := own_grown (w := W1.drew) hP2.row hgr (fun k e => fun e' => a3 (by rw [e, e']))
  have hvpb : some pb ≠ v.ownBlock := fun e => a2 e.symm
  have hMid : ∀ g cap w1, w1.ownsRow 0 36 3 (.slice (some ⟨g, 0, none⟩) (L.length + 1) cap) (L.length + 1) (encH L ++ h.cells) → (W2.drew.alloc (.cells #[.int .i64 h.d, .int .i64 h.i, .string h.c] 36)).grownBy w1 v.ownBlock → (v.ownBlock = some g ∨ g = W2.heap.size + 1) → PutMid w pb mb v L h (w1.setCell ⟨pb, 0, none⟩ (.slice (some ⟨g, 0, none⟩) (L.length + 1) cap)) :=
    fun g cap w1 q1 q2 q3 => putMid_of hP2 (HG.trans HG1) hHas hgr q1 q2 q3 hg hm
  have HM := Lib.hid hMid
  have hbx2 : W2.heap[pb]? = some (.cells #[v, .func (.func 55) #[] #[], .map (some mb)] 99 (0, 0)) := (hgr.block pb hpl (fun e => a1 (Option.some.inj e).symm)).trans hP2.box
  clear hMid c2 k0 k1 k2 hr HG HG1 hP2 b0 b1 hHas
  go_upto_region 5 with fail
  go_cut [] (fun wx => PutMid w pb mb v L h wx)
  case first =>
    go_region_law
      ((refine step_append_lies _ (by rfl) _ _ _ (by rfl) 0 36 i0 _ 3 32 Tryd.underlying32 hi0 hz0 hz1 hz2 rfl (by omega) v L.length (encH L) (by rfl) ((hrow.alloc _)) ⟨W2.heap.size, 0, none⟩ 1 1 h.cells (by rfl) (by rfl) (World.news_of_block (cs := #[.int .i64 h.d, .int .i64 h.i, .string h.c]) (t := 36) (fr := (0, 0)) (heap_alloc_new W2 _)) (by simp [Value.oneCell', Hv.cells])
         (by omega) (by unfold maxLen; omega) hn (by omega) (W2.heap.size + 1) (by simp) ?_; intro gg cap w1 hown1 hgrow hat hlt
        have d0 := (hgrow.block pb (by simp; have := hgr.size; simp at this; omega) hvpb).trans ((Below.heap_alloc W2 _ pb (cell_ltH cc0)).trans hbx2)
        have d1 := (box3 d0).1
        have d2 := (box3 d0).2.2.2 0))
    all_goals
      go_wp2_with fail
      go_meet
      exact HM.out _ _ _ hown1 hgrow hat
  case rest =>
    obtain ⟨M, hM⟩ : ∃ M, L ++ [h] = M := ⟨_, rfl⟩
    have hml : M.length = L.length + 1 := by rw [← hM]; simp
    obtain ⟨v1, hP3, hF, hO⟩ := hcut
    rw [hM] at hP3
    have hUp := heapUp_snoc HH.out h
    rw [hM] at hUp
    have hpm : M.Perm (h :: L) := by rw [← hM]; exact List.perm_append_singleton h L
    obtain ⟨c0, _, _, _⟩ := hP3.cells
    obtain ⟨g, cap, rfl, _⟩ := hP3.at (j := 0) (by omega)
    have hnb : M.length ≤ 4398046511104 := by omega
    have e0 : (M.length : Int) - 1 = (L.length : Nat) := by omega
    have HP3 := Lib.hid hP3
    clear cc0 cf0 kk0 kk1 kk2 cc0a hbx2 hrow hP3 hml HM
    go_wp2
    go_loopg [7] (L.length + 1) (fun f si wr => UpRel w pb mb v (.slice (some ⟨g, 0, none⟩) M.length cap) M f si wr)
    case atStart => exact ⟨L.length, M, by go_num, HP3.out, hUp, by omega, List.Perm.refl _, hF, Nat.le_refl _⟩
    case round =>
      obtain ⟨k, Lk, rfl, hPk, hUpk, hkl, hpk, hFk, hfk⟩ := hrel
      clear c0 HP3 hUp hF e0
      by_cases hk0 : k = 0
      · subst hk0
        go_wp2
        go_ret
        exact put_end hPk (heapUp_stop hUpk (.inl rfl)) hpk hpm hm hFk hO
      · have hk1 : (1 : Int) ≤ (k : Int) := by omega
        have hll : Lk.length = M.length := hpk.length_eq
        have hk2 : (k : Int) ≤ 4398046511104 := by omega
        obtain ⟨p, hp⟩ : ∃ p, (k - 1) / 2 = p := ⟨_, rfl⟩
        have e2 : ((k : Int) - 1) / 2 = (p : Nat) := by omega
        have hpl : p < Lk.length := by omega
        obtain ⟨gk, capk, hve, x0, x1, x2⟩ := hPk.at hkl
        obtain ⟨gp, capp, hve2, y0, y1, y2⟩ := hPk.at hpl
        obtain ⟨rfl, rfl⟩ : g = gk ∧ cap = capk := by simpa [hll] using hve
        obtain ⟨rfl, rfl⟩ : g = gp ∧ cap = capp := by simpa [hll] using hve2
        obtain ⟨c0, c1, c2, cf⟩ := hPk.cells
        have i0 : (0 : Int) ≤ (k : Int) := by omega
        have i1 : (k : Int) < (M.length : Int) := by omega
        have i2 : (0 : Int) ≤ (p : Int) := by omega
        have i3 : (p : Int) < (M.length : Int) := by omega
        clear hve hve2 cf
        by_cases hl : hless (hd Lk p) (hd Lk k)
        · have C := less_calls (hd Lk k) (hd Lk p)
          simp only [hl, decide_true, Hv.val] at C
          have HC := Lib.hid C
          clear C
          go_wp2
          go_still_tail 18, (by kernel_rfl)
          change wpList _ _ _ _ _ wr.drew
          go_wp2_with fail
          refine (HC.out _).mono ?_
          rintro e w' ⟨rfl, hgr2⟩
          have hgw : Gr wr w' := ((Gr.refl wr).drew).trans hgr2
          have hPw := hPk.gr hgw
          have hFw : Fr w w' [some pb, some mb, v.ownBlock] := hFk.trans (Fr.of_gr hgw _)
          clear hPk hFk c0 c1 c2 x0 x1 x2 y0 y1 y2 hgr2 hgw HC
          obtain ⟨gk, capk, hve, x0, x1, x2⟩ := hPw.at hkl
          obtain ⟨gp, capp, hve2, y0, y1, y2⟩ := hPw.at hpl
          obtain ⟨rfl, rfl⟩ : g = gk ∧ cap = capk := by simpa [hll] using hve
          obtain ⟨rfl, rfl⟩ : g = gp ∧ cap = capp := by simpa [hll] using hve2
          obtain ⟨c0, c1, c2, cf⟩ := hPw.cells
          have hrw := hPw.row
          rw [hll] at hrw
          have z0 := hrw.frozenAt (k * 3)
          have z1 := hrw.frozenAt (k * 3 + 1)
          have z2 := hrw.frozenAt (k * 3 + 2)
          have z3 := hrw.frozenAt (p * 3)
          have z4 := hrw.frozenAt (p * 3 + 1)
          have z5 := hrw.frozenAt (p * 3 + 2)
          have n00 : ¬ (p * 3 = k * 3) := by omega
          have m00 : ¬ (k * 3 = p * 3) := by omega
          have n01 : ¬ (p * 3 = k * 3 + 1) := by omega
          have m01 : ¬ (k * 3 = p * 3 + 1) := by omega
          have n02 : ¬ (p * 3 = k * 3 + 2) := by omega
          have m02 : ¬ (k * 3 = p * 3 + 2) := by omega
          have n10 : ¬ (p * 3 + 1 = k * 3) := by omega
          have m10 : ¬ (k * 3 + 1 = p * 3) := by omega
          have n11 : ¬ (p * 3 + 1 = k * 3 + 1) := by omega
          have m11 : ¬ (k * 3 + 1 = p * 3 + 1) := by omega
          have n12 : ¬ (p * 3 + 1 = k * 3 + 2) := by omega
          have m12 : ¬ (k * 3 + 1 = p * 3 + 2) := by omega
          have n20 : ¬ (p * 3 + 2 = k * 3) := by omega
          have m20 : ¬ (k * 3 + 2 = p * 3) := by omega
          have n21 : ¬ (p * 3 + 2 = k * 3 + 1) := by omega
          have m21 : ¬ (k * 3 + 2 = p * 3 + 1) := by omega
          have n22 : ¬ (p * 3 + 2 = k * 3 + 2) := by omega
          have m22 : ¬ (k * 3 + 2 = p * 3 + 2) := by omega
          have hHw := Lib.hid hPw
          have HUk := Lib.hid hUpk
          clear hPw hrw hUpk
          clear hve hve2
          have hSw := Lib.hid (upRel_swap hHw.out hFw HUk.out hO hll hkl hpk hp hpl (by omega) hl)
          clear hHw hFw
          go_wp2
          go_region
          clear x0 x1 x2 y0 y1 y2 z0 z1 z2 z3 z4 z5 n00 n01 n02 n10 n11 n12 n20 n21 n22 m00 m01 m02 m10 m11 m12 m20 m21 m22
          go_wp2
          go_roundg (p + 1)
          case measure => omega
          case rel => exact hSw.out
        · have C := less_calls (hd Lk k) (hd Lk p)
          simp only [hl, decide_false, Hv.val] at C
          have HC := Lib.hid C
          have hstop : Hid (∀ W, Gr wr W → PutPost w pb mb v L h (.returned (.bool true)) W) := Lib.hid (fun W hW =>
            put_end (hPk.gr hW) (heapUp_stop hUpk (.inr (by rw [hp]; exact hl))) hpk hpm hm (hFk.trans (Fr.of_gr hW _)) hO)
          clear C hPk hUpk
          go_wp2
          go_still_tail 18, (by kernel_rfl)
          change wpList _ _ _ _ _ wr.drew
          go_wp2_with fail
          refine (HC.out _).mono ?_
          rintro e w' ⟨rfl, hgr2⟩
          go_wp2
          go_ret
          exact hstop.out _ (((Gr.refl wr).drew).trans hgr2)
end Go.Proofs.YtmfanldekjkbiaaDoor

/-
  WALKS: Split, by the program. The text is within the reach.
-/
import Derived.Test.YtldcfgifimdmmaaDoorChunks2
import Derived.Test.YtldcfgifimdmmaaDoorChunksF
import Derived.Test.YtldcfgifimdmmaaDoorRound
import Derived.Deep.RegionHeldLaw
namespace Go.Proofs.YtldcfgifimdmmaaDoor
open Go.RowKit Go.Shelf
set_option linter.unusedVariables false

/-- The values of the first n chunks. -/
def splitV (l : List UInt8) (w m n : Nat) : List Value := (fr m n).map fun x => .int .i64 (numOf (bitsOf l (cF w m x.val) (cN w m x.val)) : Nat)
theorem intinfo : (Tryd.prog.info? 3).map (fun i => (i.zero, i.size, i.bytes)) = some (some (.int .i64 0), 1, 8) := by kernel_rfl

attribute [local go_sem] Oper.semAt_some

set_option maxRecDepth 100000 in
set_option maxHeartbeats 2000000 in
theorem Split_in (n : Nat) (hn : 6 ≤ n) (s : ByteArray) (w0 m0 : Nat) (hc0 : chunkedR w0 m0 = 0) (hs : s.size = w0 / 8) (hw8 : w0 % 8 = 0) (hm : 0 < m0) (hm2 : m0 ≤ 1024) (hw : w0 ≤ 1024) (h64 : ∀ j, j < m0 → cN w0 m0 j ≤ 32) (w : World) :
    CallsIn Fence.wide n Tryd.prog 20 #[.int .i64 w0, .int .i64 m0, .string s] w fun e w' => ∃ v, e = .returned (.tuple #[v, .int .i64 0]) ∧ w'.ownsRow w.heap.size 3 1 v m0 (splitV s.data.toList w0 m0 m0) ∧ Below w.heap.size w w' := by
  have h1 : 1 ≤ n := by omega
  have C := fun W => chunked_calls w0 m0 W
  simp only [hc0] at C
  have HC := Lib.hid C
  obtain ⟨i0, hi, hz0, hz1, hz2⟩ := info_parts intinfo
  have hmk := fun W : World => run_make (P := Tryd.prog) W 30 3 i0 _ Tryd.underlying30 hi hz0 .i64 .i64 0 m0 (by omega) (by omega) (by rw [hz2]; omega) (by omega)
  have hne : ((s.size : Int) != (w0 : Int) / 8) = false := by rw [bne_eq_false_iff_eq]; omega
  clear C hc0
  refine callsIn_of_wp_marks Tryd.func20 rfl trivial ?_ rfl
  simp only [Tryd.ntmps20, List.size_toArray, List.length_cons, List.length_nil, Nat.reduceAdd, Nat.reduceSub, Array.replicate_succ, Array.replicate_zero, List.push_toArray, List.append_toArray, List.nil_append, List.cons_append]
  gi_wp2_with (first
    | (refine ⟨trivial, ?_⟩; gi_at_call 28; refine (callsIn_wide.2 (HC.out _)).mono ?_; rintro e w' ⟨rfl, rfl⟩)
    | (refine ⟨trivial, ?_⟩; gi_at_call 29; refine (callsIn_wide.2 (chunks_calls w0 m0 _)).mono ?_; rintro e w' ⟨rfl, rfl⟩))
  obtain ⟨W0, hW0⟩ : ∃ W0, ((((w.alloc (.cells #[.string s] 9)).alloc (.cells (madeCells #[.int .i64 0] m0) 3)).alloc (.cells #[.slice (some ⟨w.heap.size + 1, 0, none⟩) 0 m0] 30)).alloc (.cells #[.int .i64 (w0 : Int)] 3)).alloc (.cells #[.int .i64 (m0 : Int)] 3) = W0 := ⟨_, rfl⟩
  have hsz : W0.heap.size = w.heap.size + 5 := by rw [← hW0]; simp
  have hbs0 : Boxed W0 w.heap.size 9 (.string s) := by
    rw [← hW0]
    exact ((((Boxed.new w 9 (.string s)).alloc _).alloc _).alloc _).alloc _
  have hbox : Boxed W0 (w.heap.size + 1 + 1) 30 (.slice (some ⟨w.heap.size + 1, 0, none⟩) 0 m0) := by
    rw [← hW0]
    have := Boxed.new ((w.alloc (.cells #[.string s] 9)).alloc (.cells (madeCells #[.int .i64 0] m0) 3)) 30 (.slice (some ⟨w.heap.size + 1, 0, none⟩) 0 m0)
    simp only [World.size_alloc] at this
    exact (this.alloc _).alloc _
  have hbw0 : Boxed W0 (w.heap.size + 1 + 1 + 1) 3 (.int .i64 w0) := by
    rw [← hW0]
    have := Boxed.new (((w.alloc (.cells #[.string s] 9)).alloc (.cells (madeCells #[.int .i64 0] m0) 3)).alloc (.cells #[.slice (some ⟨w.heap.size + 1, 0, none⟩) 0 m0] 30)) 3 (.int .i64 (w0 : Int))
    simp only [World.size_alloc] at this
    exact this.alloc _
  have hw0 := hbw0.cell
  have hbm0 : Boxed W0 (w.heap.size + 1 + 1 + 1 + 1) 3 (.int .i64 m0) := by
    rw [← hW0]
    have := Boxed.new ((((w.alloc (.cells #[.string s] 9)).alloc (.cells (madeCells #[.int .i64 0] m0) 3)).alloc (.cells #[.slice (some ⟨w.heap.size + 1, 0, none⟩) 0 m0] 30)).alloc (.cells #[.int .i64 (w0 : Int)] 3)) 3 (.int .i64 (m0 : Int))
    simp only [World.size_alloc] at this
    exact this
  have hm0 := hbm0.cell
  have hrow : W0.ownsRow w.heap.size 3 1 (.slice (some ⟨w.heap.size + 1, 0, none⟩) 0 m0) 0 [] := by
    rw [← hW0]
    refine (((World.ownsRow.alloc (h := ?_) _).alloc _).alloc _)
    have := World.ownsRow_made (base := w.heap.size) (e := 3) (size := 1) (w.alloc (.cells #[.string s] 9)) (madeCells #[.int .i64 0] m0) m0 (by simp) (by unfold maxLen; omega) (by simp [madeCells])
    simp only [World.size_alloc] at this
    exact this
  have hB0 : Below w.heap.size w W0 := by
    rw [← hW0]; exact (((((Below.refl _ w).alloc (Nat.le_refl _) _).alloc (by simp) _).alloc (by simp; omega) _).alloc (by simp; omega) _).alloc (by simp; omega) _
  rw [hW0]
  clear hW0 hmk
  refine wpIn_rangeFunc_ownH rfl h1 (gf := 31) (lb := #[.pointer (some ⟨w.heap.size + 1 + 1 + 1 + 1, 0, none⟩), .pointer (some ⟨w.heap.size + 1 + 1 + 1, 0, none⟩)]) rfl trivial (enters_of Tryd.func31 (by kernel_rfl) rfl)
    (chunksF_stops (n - 1) (by omega) _ _ w0 m0 hm hm2 hw W0 hm0 hw0 (by omega) (by omega)) KeepAt.trans (KeepAt.put (by simp; omega)) (Below.refl _ _) (fun _ => rfl)
    (fun pre W => ((∃ v, Boxed W (w.heap.size + 1 + 1) 30 v ∧ W.ownsRow w.heap.size 3 1 v pre.length (pre.map fun x => .int .i64 (numOf (bitsOf s.data.toList (cF w0 m0 x.val) (cN w0 m0 x.val)) : Nat)) ∧ (v.ownBlock ≠ some (w.heap.size + 1 + 1 + 1) ∧ v.ownBlock ≠ some (w.heap.size + 1 + 1 + 1 + 1))) ∧ Below w.heap.size w W) ∧
      (Boxed W (w.heap.size + 1 + 1 + 1) 3 (.int .i64 w0) ∧ Boxed W (w.heap.size + 1 + 1 + 1 + 1) 3 (.int .i64 m0)) ∧ Boxed W w.heap.size 9 (.string s))
    (fun _ _ _ => False)
    (OwnFrom.and (OwnFrom.and (Own.from (holdsRow_own _ _ _ _ _ _ _ _) _) (ownFrom_below (Nat.le_refl _) (by omega))) (OwnFrom.and (OwnFrom.and (Own.from (boxed_own _ _ (fun _ => _)) _) (Own.from (boxed_own _ _ (fun _ => _)) _)) (Own.from (boxed_own _ _ (fun _ => _)) _)))
    (fun _ _ _ _ _ hs _ _ => hs)
    ⟨⟨⟨_, hbox, hrow, by simp [Value.ownBlock], by simp [Value.ownBlock]⟩, hB0⟩, ⟨hbw0, hbm0⟩, hbs0⟩
    (fun x a' W => ∃ p, (∃ u21 u22, a' = { tmps := #[.int .i64 w0, .int .i64 m0, .string s, undef, undef, .pointer (some ⟨w.heap.size, 0, none⟩), .slice none 0 0, .int .i64 0, .int .i64 0, .pointer (some ⟨w.heap.size + 1 + 1, 0, none⟩), undef, .pointer (some ⟨p, 0, none⟩), .int .i64 w0, .int .i64 m0, .int .i64 0, .int .i64 0, .bool false, undef,
      .string s, .int .i64 ((w0 : Int) / 8), .int .i64 w0, .int .i64 ((w0 : Int) / 8), .bool false, .int .i64 m0,
      .slice (some ⟨w.heap.size + 1, 0, none⟩) 0 m0, .int .i64 w0, .int .i64 m0, .func (.func 31) #[] #[.pointer (some ⟨w.heap.size + 1 + 1 + 1 + 1, 0, none⟩), .pointer (some ⟨w.heap.size + 1 + 1 + 1, 0, none⟩)], u21, u22, undef, undef, undef, undef, undef, undef, undef, undef, undef, undef, undef], defers := [] }) ∧
      W.heap[p]? = some (.cells #[.int .i64 (cF w0 m0 x.val : Int), .int .i64 (cN w0 m0 x.val : Int)] 49 (0, 0)) ∧ w.heap.size + 5 ≤ p) ?hax ?assign ?body ?done ?stop
  case hax =>
    rintro x a' _ X Y row ⟨p, he, hp, hle⟩ hg hr
    exact ⟨p, he, (hg.block p (Array.getElem?_eq_some_iff.1 hp).1 (fun e' => by obtain ⟨_, o, ho, hc⟩ := hr p e'.symm; rw [hp] at ho; cases ho; cases hc)).trans hp, hle⟩
  case assign =>
    rintro l pre x W K ⟨⟨⟨v, hbx, hrw, hG⟩, hbl⟩, ⟨hbw, hbm⟩, hbs⟩ hK
    have hle : w.heap.size + 5 ≤ W.heap.size := by have := hbm.lt; omega
    simp only [chunkF, chunkA]
    gi_wp2
    exact hK _ _ ((KeepsOthers.alloc _ _).from _) (KeepAt.alloc (by simp; omega) _) ⟨⟨⟨v, hbx.alloc _, hrw.alloc _, hG⟩, hbl.alloc hbl.size _⟩, ⟨hbw.alloc _, hbm.alloc _⟩, hbs.alloc _⟩ ⟨W.heap.size, ⟨_, _, rfl⟩, heap_alloc_new W _, hle⟩
  case body =>
    rintro l pre x a' W _ _ ⟨⟨⟨v, hbx, hrw, hG⟩, hbl⟩, ⟨hbw, hbm⟩, hbs⟩ ⟨p, ⟨u21, u22, rfl⟩, hp, hle⟩ hlen
    have hcb := hbx.cell
    have hcf := hbx.frozen
    have hcs := hbs.cell
    have hfe := cF_end w0 m0 x.val hm x.isLt
    have hf32 := h64 x.val x.isLt
    obtain ⟨f, hf⟩ : ∃ f, cF w0 m0 x.val = f := ⟨_, rfl⟩
    obtain ⟨c, hc⟩ : ∃ c, cN w0 m0 x.val = c := ⟨_, rfl⟩
    rw [hf, hc] at hp hfe
    rw [hc] at hf32
    have c0 : W.cell? ⟨p, 0, none⟩ = some (.int .i64 (f : Int)) := by rw [cell_of_row W p 0 _ _ _ hp]; rfl
    have c1 : W.cell? ⟨p, 1, none⟩ = some (.int .i64 (c : Int)) := by rw [cell_of_row W p 1 _ _ _ hp]; rfl
    have CN := Lib.hid (fun W => number_calls s f c (by omega) (by omega) (by omega) W)
    have HF := Lib.hid hf
    have HCC := Lib.hid hc
    clear hf hc
    gi_wp2_with fail
    obtain ⟨hG1, hG2⟩ := hG
    obtain ⟨N, hN⟩ : ∃ N, numOf (bitsOf s.data.toList f c) = N := ⟨_, rfl⟩
    have hNl := numOf_lt (bitsOf s.data.toList f c)
    rw [bitsOf_length, hN] at hNl
    have hN32 : N < 4294967296 := Nat.lt_of_lt_of_le hNl (Nat.pow_le_pow_right (n := 2) (by omega) hf32)
    have cn := CN.out
    rw [hN] at cn
    have CN := Lib.hid cn
    have HN := Lib.hid hN
    clear cn hN hNl
    refine wpIn_region_held l _ (S := fun W' => W'.cell? ⟨w.heap.size, 0, none⟩ = some (.string s) ∧ W'.cell? ⟨p, 0, none⟩ = some (.int .i64 (f : Int)) ∧ W'.cell? ⟨p, 1, none⟩ = some (.int .i64 (c : Int)))
      (by kernel_rfl) (by kernel_rfl) (by rintro ⟨a, w, h⟩; exact h) ⟨hcs, c0, c1⟩ (fun hHeld => ?_)
    refine wpAnyH_take (i := 1) (v := .string s) rfl (by kernel_rfl) (by kernel_rfl) (by kernel_rfl) (fun _ _ _ h => h) (Or.inl ⟨by rfl, ?_⟩) hHeld ?_
    · intro w hSw
      (try dsimp only at hSw)
      obtain ⟨q3, q4, q5⟩ := hSw
      go_simp
    (try simp only [Act.put])
    refine wpAnyH_take (i := 2) (v := .pointer (some ⟨p, 0, none⟩)) rfl (by kernel_rfl) (by kernel_rfl) (by kernel_rfl) (fun _ _ _ h => h) (Or.inl ⟨by rfl, ?_⟩) hHeld ?_
    · intro w hSw
      (try dsimp only at hSw)
      obtain ⟨q3, q4, q5⟩ := hSw
      go_simp
    (try simp only [Act.put])
    refine wpAnyH_take (i := 3) (v := .int .i64 (f : Int)) rfl (by kernel_rfl) (by kernel_rfl) (by kernel_rfl) (fun _ _ _ h => h) (Or.inl ⟨by rfl, ?_⟩) hHeld ?_
    · intro w hSw
      (try dsimp only at hSw)
      obtain ⟨q3, q4, q5⟩ := hSw
      go_simp
    (try simp only [Act.put])
    refine wpAnyH_take (i := 4) (v := .pointer (some ⟨p, 1, none⟩)) rfl (by kernel_rfl) (by kernel_rfl) (by kernel_rfl) (fun _ _ _ h => h) (Or.inl ⟨by rfl, ?_⟩) hHeld ?_
    · intro w hSw
      (try dsimp only at hSw)
      obtain ⟨q3, q4, q5⟩ := hSw
      go_simp
    (try simp only [Act.put])
    refine wpAnyH_take (i := 5) (v := .int .i64 (c : Int)) rfl (by kernel_rfl) (by kernel_rfl) (by kernel_rfl) (fun _ _ _ h => h) (Or.inl ⟨by rfl, ?_⟩) hHeld ?_
    · intro w hSw
      (try dsimp only at hSw)
      obtain ⟨q3, q4, q5⟩ := hSw
      go_simp
    (try simp only [Act.put])
    refine wpAnyH_ready (rs := [0, 6]) (by kernel_rfl) (by simp) ?_
    refine AllReadyH.cons rfl (fun K hK => ?_) (AllReadyH.cons rfl (fun K hK => ?_) AllReadyH.nil)
    · go_simp
      refine hK.out _ _ hHeld (fun hHeld => ?_)
      clear hK K
      refine wpAnyH_ready (rs := [6]) (by kernel_rfl) (by simp) ?_
      refine AllReadyH.cons rfl (fun K hK => ?_) AllReadyH.nil
      go_simp
      refine (CN.out _).mono ?_
      rintro e w1 ⟨rfl, hb1⟩
      have hbx1 : Boxed w1 _ _ _ := (hb1.block _ hbx.lt).trans hbx
      have hbs1 : Boxed w1 _ _ _ := (hb1.block _ hbs.lt).trans hbs
      have hbw1 : Boxed w1 _ _ _ := (hb1.block _ hbw.lt).trans hbw
      have hbm1 : Boxed w1 _ _ _ := (hb1.block _ hbm.lt).trans hbm
      have hp1 := (hb1.block p (Array.getElem?_eq_some_iff.1 hp).1).trans hp
      have hrw1 := ownsRow_below hrw (show Below W.heap.size W w1 from ⟨hb1.os, hb1.tape, hb1.output, hb1.size, hb1.block⟩)
      have d1 := hbx1.cell
      have d2 := hbx1.frozen
      have hsz1 : W.heap.size ≤ w1.heap.size := hb1.size
      refine hK.out _ _ ⟨hbs1.cell, by rw [cell_of_row w1 p 0 _ _ _ hp1]; rfl, by rw [cell_of_row w1 p 1 _ _ _ hp1]; rfl⟩ (fun hHeld => ?_)
      clear hK K
      refine wpAnyH_take (i := 7) (v := .int .i64 (N : Int)) rfl (by kernel_rfl) (by kernel_rfl) (by kernel_rfl) (fun _ _ _ h => h) (Or.inl ⟨by rfl, ?_⟩) hHeld ?_
      · intro w hSw
        (try dsimp only at hSw)
        obtain ⟨q3, q4, q5⟩ := hSw
        go_simp
        rw [IntKind.wrap_i64]
        omega
      (try simp only [Act.put])
      refine wpAnyH_ready (rs := [8]) (by kernel_rfl) (by simp) ?_
      refine AllReadyH.cons rfl (fun K hK => ?_) AllReadyH.nil
      go_simp
      refine hK.out _ _ ⟨(hbs1.alloc _).cell, by rw [cell_of_row _ p 0 _ _ _ ((Below.heap_alloc w1 _ p (Array.getElem?_eq_some_iff.1 hp1).1).trans hp1)]; rfl, by rw [cell_of_row _ p 1 _ _ _ ((Below.heap_alloc w1 _ p (Array.getElem?_eq_some_iff.1 hp1).1).trans hp1)]; rfl⟩ (fun hHeld => ?_)
      clear hK K
      refine wpAnyH_ready (rs := [9]) (by kernel_rfl) (by simp) ?_
      refine AllReadyH.cons rfl (fun K hK => ?_) AllReadyH.nil
      refine step_append_lies _ (by rfl) (.tmp 30) (.tmp 38) 30 (by rfl) w.heap.size 3 i0 (.int .i64 0) 1 8 Tryd.underlying30 hi hz0 hz1 hz2 rfl (by decide) v pre.length _ (by rfl) (hrw1.alloc _) ⟨w1.heap.size, 0, none⟩ 1 1 [.int .i64 (N : Int)] (by rfl) rfl (cell_one_new _ _ _) (by simp [Value.oneCell']) (by decide) (by unfold maxLen; omega) (by omega) (by have := hbl.size; simp; omega) (w1.heap.size + 1) (by simp) ?_
      intro g cap w2 hown2 hgrow hat hlt2
      have hnb : (some (w.heap.size + 1 + 1) : Option Nat) ≠ v.ownBlock := hbx.not_row (by decide) hrw
      have hns : (some w.heap.size : Option Nat) ≠ v.ownBlock := hbs.not_row (by decide) hrw
      have hnp : (some p : Option Nat) ≠ v.ownBlock := fun e' => by
        rcases hrw.2 with ⟨rfl, _⟩ | ⟨g0, cap0, cur0, rfl, _, hgb, _⟩
        · cases e'
        · obtain rfl : p = g0 := by simpa [Value.ownBlock] using e'
          rw [hp] at hgb; simp at hgb
      have hbx2 := (hbx1.alloc (.cells #[.int .i64 (N : Int)] 3)).kept hgrow hnb
      have hbs2 := (hbs1.alloc (.cells #[.int .i64 (N : Int)] 3)).kept hgrow hns
      have hbw2 := (hbw1.alloc (.cells #[.int .i64 (N : Int)] 3)).kept hgrow (Ne.symm hG1)
      have hbm2 := (hbm1.alloc (.cells #[.int .i64 (N : Int)] 3)).kept hgrow (Ne.symm hG2)
      have hpl := (Array.getElem?_eq_some_iff.1 hp1).1
      have hp2 := (hgrow.block p (by simp; omega) hnp).trans ((Below.heap_alloc w1 (.cells #[.int .i64 (N : Int)] 3) p hpl).trans hp1)
      have d3 := hbx2.cell
      have d4 := hbx2.frozen
      refine hK.out _ _ ⟨hbs2.cell, by rw [cell_of_row w2 p 0 _ _ _ hp2]; rfl, by rw [cell_of_row w2 p 1 _ _ _ hp2]; rfl⟩ (fun hHeld => ?_)
      clear hK K
      refine wpAnyH_ready (rs := [10]) (by kernel_rfl) (by simp) ?_
      refine AllReadyH.cons rfl (fun K hK => ?_) AllReadyH.nil
      go_simp
      have hpne : p ≠ w.heap.size + 1 + 1 := by omega
      have hp3 := (Below.heap_setCell w2 ⟨w.heap.size + 1 + 1, 0, none⟩ (.slice (some ⟨g, 0, none⟩) (pre.length + 1) cap) p hpne).trans hp2
      have hbs3 := hbs2.other (B' := w.heap.size + 1 + 1) (by omega) (.slice (some ⟨g, 0, none⟩) (pre.length + 1) cap)
      have hbw3 := hbw2.other (B' := w.heap.size + 1 + 1) (by omega) (.slice (some ⟨g, 0, none⟩) (pre.length + 1) cap)
      have hbm3 := hbm2.other (B' := w.heap.size + 1 + 1) (by omega) (.slice (some ⟨g, 0, none⟩) (pre.length + 1) cap)
      refine hK.out _ _ ⟨hbs3.cell, by rw [cell_of_row _ p 0 _ _ _ hp3]; rfl, by rw [cell_of_row _ p 1 _ _ _ hp3]; rfl⟩ (fun hHeld => ?_)
      clear hK K
      refine wpAnyH_done (by kernel_rfl) ?_ _
      have hbW : Below w.heap.size W w1 := (show Below W.heap.size W w1 from ⟨hb1.os, hb1.tape, hb1.output, hb1.size, hb1.block⟩).mono hbl.size
      obtain ⟨_, hv2, hr2, hk2, hb2⟩ := hbx1.appended (by decide) hrw1 (by have := hbl.size; omega) (by omega) hown2 hgrow
      have hgne : g ≠ w.heap.size + 1 + 1 + 1 ∧ g ≠ w.heap.size + 1 + 1 + 1 + 1 := by
        rcases hat with e | e
        · exact ⟨fun h => hG1 (by rw [e, h]), fun h => hG2 (by rw [e, h])⟩
        · have := hbm1.lt
          omega
      refine ⟨(⟨hb1.size, fun k o _ hk _ => (hb1.block k (Array.getElem?_eq_some_iff.1 hk).1).trans hk⟩ : KeepsFrom _ W w1).trans (hk2.from _), ?_, ⟨⟨_, hv2, ?_, by simpa [Value.ownBlock] using hgne⟩, hbl.trans (hbW.trans hb2)⟩, ⟨hbw3, hbm3⟩, hbs3⟩
      · intro g1 hg1
        rcases (by simpa using hg1 : g1 = w.heap.size + 1 + 1 + 1 + 1 ∨ g1 = w.heap.size + 1 + 1 + 1) with rfl | rfl
        · exact (show _ = _ from hbm3).trans (show _ = _ from hbm).symm
        · exact (show _ = _ from hbw3).trans (show _ = _ from hbw).symm
      · simpa [HF.out, HCC.out, HN.out] using hr2
    · go_simp
      refine (CN.out _).mono ?_
      rintro e w1 ⟨rfl, hb1⟩
      have hbx1 : Boxed w1 _ _ _ := (hb1.block _ hbx.lt).trans hbx
      have hbs1 : Boxed w1 _ _ _ := (hb1.block _ hbs.lt).trans hbs
      have hbw1 : Boxed w1 _ _ _ := (hb1.block _ hbw.lt).trans hbw
      have hbm1 : Boxed w1 _ _ _ := (hb1.block _ hbm.lt).trans hbm
      have hp1 := (hb1.block p (Array.getElem?_eq_some_iff.1 hp).1).trans hp
      have hrw1 := ownsRow_below hrw (show Below W.heap.size W w1 from ⟨hb1.os, hb1.tape, hb1.output, hb1.size, hb1.block⟩)
      have d1 := hbx1.cell
      have d2 := hbx1.frozen
      have hsz1 : W.heap.size ≤ w1.heap.size := hb1.size
      refine hK.out _ _ ⟨hbs1.cell, by rw [cell_of_row w1 p 0 _ _ _ hp1]; rfl, by rw [cell_of_row w1 p 1 _ _ _ hp1]; rfl⟩ (fun hHeld => ?_)
      clear hK K
      refine wpAnyH_take (i := 7) (v := .int .i64 (N : Int)) rfl (by kernel_rfl) (by kernel_rfl) (by kernel_rfl) (fun _ _ _ h => h) (Or.inl ⟨by rfl, ?_⟩) hHeld ?_
      · intro w hSw
        (try dsimp only at hSw)
        obtain ⟨q3, q4, q5⟩ := hSw
        go_simp
        rw [IntKind.wrap_i64]
        omega
      (try simp only [Act.put])
      refine wpAnyH_ready (rs := [0, 8]) (by kernel_rfl) (by simp) ?_
      refine AllReadyH.cons rfl (fun K hK => ?_) (AllReadyH.cons rfl (fun K hK => ?_) AllReadyH.nil)
      · go_simp
        refine hK.out _ _ hHeld (fun hHeld => ?_)
        clear hK K
        refine wpAnyH_ready (rs := [8]) (by kernel_rfl) (by simp) ?_
        refine AllReadyH.cons rfl (fun K hK => ?_) AllReadyH.nil
        go_simp
        refine hK.out _ _ ⟨(hbs1.alloc _).cell, by rw [cell_of_row _ p 0 _ _ _ ((Below.heap_alloc w1 _ p (Array.getElem?_eq_some_iff.1 hp1).1).trans hp1)]; rfl, by rw [cell_of_row _ p 1 _ _ _ ((Below.heap_alloc w1 _ p (Array.getElem?_eq_some_iff.1 hp1).1).trans hp1)]; rfl⟩ (fun hHeld => ?_)
        clear hK K
        refine wpAnyH_ready (rs := [9]) (by kernel_rfl) (by simp) ?_
        refine AllReadyH.cons rfl (fun K hK => ?_) AllReadyH.nil
        refine step_append_lies _ (by rfl) (.tmp 30) (.tmp 38) 30 (by rfl) w.heap.size 3 i0 (.int .i64 0) 1 8 Tryd.underlying30 hi hz0 hz1 hz2 rfl (by decide) v pre.length _ (by rfl) (hrw1.alloc _) ⟨w1.heap.size, 0, none⟩ 1 1 [.int .i64 (N : Int)] (by rfl) rfl (cell_one_new _ _ _) (by simp [Value.oneCell']) (by decide) (by unfold maxLen; omega) (by omega) (by have := hbl.size; simp; omega) (w1.heap.size + 1) (by simp) ?_
        intro g cap w2 hown2 hgrow hat hlt2
        have hnb : (some (w.heap.size + 1 + 1) : Option Nat) ≠ v.ownBlock := hbx.not_row (by decide) hrw
        have hns : (some w.heap.size : Option Nat) ≠ v.ownBlock := hbs.not_row (by decide) hrw
        have hnp : (some p : Option Nat) ≠ v.ownBlock := fun e' => by
          rcases hrw.2 with ⟨rfl, _⟩ | ⟨g0, cap0, cur0, rfl, _, hgb, _⟩
          · cases e'
          · obtain rfl : p = g0 := by simpa [Value.ownBlock] using e'
            rw [hp] at hgb; simp at hgb
        have hbx2 := (hbx1.alloc (.cells #[.int .i64 (N : Int)] 3)).kept hgrow hnb
        have hbs2 := (hbs1.alloc (.cells #[.int .i64 (N : Int)] 3)).kept hgrow hns
        have hbw2 := (hbw1.alloc (.cells #[.int .i64 (N : Int)] 3)).kept hgrow (Ne.symm hG1)
        have hbm2 := (hbm1.alloc (.cells #[.int .i64 (N : Int)] 3)).kept hgrow (Ne.symm hG2)
        have hpl := (Array.getElem?_eq_some_iff.1 hp1).1
        have hp2 := (hgrow.block p (by simp; omega) hnp).trans ((Below.heap_alloc w1 (.cells #[.int .i64 (N : Int)] 3) p hpl).trans hp1)
        have d3 := hbx2.cell
        have d4 := hbx2.frozen
        refine hK.out _ _ ⟨hbs2.cell, by rw [cell_of_row w2 p 0 _ _ _ hp2]; rfl, by rw [cell_of_row w2 p 1 _ _ _ hp2]; rfl⟩ (fun hHeld => ?_)
        clear hK K
        refine wpAnyH_ready (rs := [10]) (by kernel_rfl) (by simp) ?_
        refine AllReadyH.cons rfl (fun K hK => ?_) AllReadyH.nil
        go_simp
        have hpne : p ≠ w.heap.size + 1 + 1 := by omega
        have hp3 := (Below.heap_setCell w2 ⟨w.heap.size + 1 + 1, 0, none⟩ (.slice (some ⟨g, 0, none⟩) (pre.length + 1) cap) p hpne).trans hp2
        have hbs3 := hbs2.other (B' := w.heap.size + 1 + 1) (by omega) (.slice (some ⟨g, 0, none⟩) (pre.length + 1) cap)
        have hbw3 := hbw2.other (B' := w.heap.size + 1 + 1) (by omega) (.slice (some ⟨g, 0, none⟩) (pre.length + 1) cap)
        have hbm3 := hbm2.other (B' := w.heap.size + 1 + 1) (by omega) (.slice (some ⟨g, 0, none⟩) (pre.length + 1) cap)
        refine hK.out _ _ ⟨hbs3.cell, by rw [cell_of_row _ p 0 _ _ _ hp3]; rfl, by rw [cell_of_row _ p 1 _ _ _ hp3]; rfl⟩ (fun hHeld => ?_)
        clear hK K
        refine wpAnyH_done (by kernel_rfl) ?_ _
        have hbW : Below w.heap.size W w1 := (show Below W.heap.size W w1 from ⟨hb1.os, hb1.tape, hb1.output, hb1.size, hb1.block⟩).mono hbl.size
        obtain ⟨_, hv2, hr2, hk2, hb2⟩ := hbx1.appended (by decide) hrw1 (by have := hbl.size; omega) (by omega) hown2 hgrow
        have hgne : g ≠ w.heap.size + 1 + 1 + 1 ∧ g ≠ w.heap.size + 1 + 1 + 1 + 1 := by
          rcases hat with e | e
          · exact ⟨fun h => hG1 (by rw [e, h]), fun h => hG2 (by rw [e, h])⟩
          · have := hbm1.lt
            omega
        refine ⟨(⟨hb1.size, fun k o _ hk _ => (hb1.block k (Array.getElem?_eq_some_iff.1 hk).1).trans hk⟩ : KeepsFrom _ W w1).trans (hk2.from _), ?_, ⟨⟨_, hv2, ?_, by simpa [Value.ownBlock] using hgne⟩, hbl.trans (hbW.trans hb2)⟩, ⟨hbw3, hbm3⟩, hbs3⟩
        · intro g1 hg1
          rcases (by simpa using hg1 : g1 = w.heap.size + 1 + 1 + 1 + 1 ∨ g1 = w.heap.size + 1 + 1 + 1) with rfl | rfl
          · exact (show _ = _ from hbm3).trans (show _ = _ from hbm).symm
          · exact (show _ = _ from hbw3).trans (show _ = _ from hbw).symm
        · simpa [HF.out, HCC.out, HN.out] using hr2
      · go_simp
        refine hK.out _ _ ⟨(hbs1.alloc _).cell, by rw [cell_of_row _ p 0 _ _ _ ((Below.heap_alloc w1 _ p (Array.getElem?_eq_some_iff.1 hp1).1).trans hp1)]; rfl, by rw [cell_of_row _ p 1 _ _ _ ((Below.heap_alloc w1 _ p (Array.getElem?_eq_some_iff.1 hp1).1).trans hp1)]; rfl⟩ (fun hHeld => ?_)
        clear hK K
        refine wpAnyH_ready (rs := [0]) (by kernel_rfl) (by simp) ?_
        refine AllReadyH.cons rfl (fun K hK => ?_) AllReadyH.nil
        have d1' := (hbx1.alloc (.cells #[.int .i64 (N : Int)] 3)).cell
        go_simp
        refine hK.out _ _ hHeld (fun hHeld => ?_)
        clear hK K
        refine wpAnyH_ready (rs := [9]) (by kernel_rfl) (by simp) ?_
        refine AllReadyH.cons rfl (fun K hK => ?_) AllReadyH.nil
        refine step_append_lies _ (by rfl) (.tmp 30) (.tmp 38) 30 (by rfl) w.heap.size 3 i0 (.int .i64 0) 1 8 Tryd.underlying30 hi hz0 hz1 hz2 rfl (by decide) v pre.length _ (by rfl) (hrw1.alloc _) ⟨w1.heap.size, 0, none⟩ 1 1 [.int .i64 (N : Int)] (by rfl) rfl (cell_one_new _ _ _) (by simp [Value.oneCell']) (by decide) (by unfold maxLen; omega) (by omega) (by have := hbl.size; simp; omega) (w1.heap.size + 1) (by simp) ?_
        intro g cap w2 hown2 hgrow hat hlt2
        have hnb : (some (w.heap.size + 1 + 1) : Option Nat) ≠ v.ownBlock := hbx.not_row (by decide) hrw
        have hns : (some w.heap.size : Option Nat) ≠ v.ownBlock := hbs.not_row (by decide) hrw
        have hnp : (some p : Option Nat) ≠ v.ownBlock := fun e' => by
          rcases hrw.2 with ⟨rfl, _⟩ | ⟨g0, cap0, cur0, rfl, _, hgb, _⟩
          · cases e'
          · obtain rfl : p = g0 := by simpa [Value.ownBlock] using e'
            rw [hp] at hgb; simp at hgb
        have hbx2 := (hbx1.alloc (.cells #[.int .i64 (N : Int)] 3)).kept hgrow hnb
        have hbs2 := (hbs1.alloc (.cells #[.int .i64 (N : Int)] 3)).kept hgrow hns
        have hbw2 := (hbw1.alloc (.cells #[.int .i64 (N : Int)] 3)).kept hgrow (Ne.symm hG1)
        have hbm2 := (hbm1.alloc (.cells #[.int .i64 (N : Int)] 3)).kept hgrow (Ne.symm hG2)
        have hpl := (Array.getElem?_eq_some_iff.1 hp1).1
        have hp2 := (hgrow.block p (by simp; omega) hnp).trans ((Below.heap_alloc w1 (.cells #[.int .i64 (N : Int)] 3) p hpl).trans hp1)
        have d3 := hbx2.cell
        have d4 := hbx2.frozen
        refine hK.out _ _ ⟨hbs2.cell, by rw [cell_of_row w2 p 0 _ _ _ hp2]; rfl, by rw [cell_of_row w2 p 1 _ _ _ hp2]; rfl⟩ (fun hHeld => ?_)
        clear hK K
        refine wpAnyH_ready (rs := [10]) (by kernel_rfl) (by simp) ?_
        refine AllReadyH.cons rfl (fun K hK => ?_) AllReadyH.nil
        go_simp
        have hpne : p ≠ w.heap.size + 1 + 1 := by omega
        have hp3 := (Below.heap_setCell w2 ⟨w.heap.size + 1 + 1, 0, none⟩ (.slice (some ⟨g, 0, none⟩) (pre.length + 1) cap) p hpne).trans hp2
        have hbs3 := hbs2.other (B' := w.heap.size + 1 + 1) (by omega) (.slice (some ⟨g, 0, none⟩) (pre.length + 1) cap)
        have hbw3 := hbw2.other (B' := w.heap.size + 1 + 1) (by omega) (.slice (some ⟨g, 0, none⟩) (pre.length + 1) cap)
        have hbm3 := hbm2.other (B' := w.heap.size + 1 + 1) (by omega) (.slice (some ⟨g, 0, none⟩) (pre.length + 1) cap)
        refine hK.out _ _ ⟨hbs3.cell, by rw [cell_of_row _ p 0 _ _ _ hp3]; rfl, by rw [cell_of_row _ p 1 _ _ _ hp3]; rfl⟩ (fun hHeld => ?_)
        clear hK K
        refine wpAnyH_done (by kernel_rfl) ?_ _
        have hbW : Below w.heap.size W w1 := (show Below W.heap.size W w1 from ⟨hb1.os, hb1.tape, hb1.output, hb1.size, hb1.block⟩).mono hbl.size
        obtain ⟨_, hv2, hr2, hk2, hb2⟩ := hbx1.appended (by decide) hrw1 (by have := hbl.size; omega) (by omega) hown2 hgrow
        have hgne : g ≠ w.heap.size + 1 + 1 + 1 ∧ g ≠ w.heap.size + 1 + 1 + 1 + 1 := by
          rcases hat with e | e
          · exact ⟨fun h => hG1 (by rw [e, h]), fun h => hG2 (by rw [e, h])⟩
          · have := hbm1.lt
            omega
        refine ⟨(⟨hb1.size, fun k o _ hk _ => (hb1.block k (Array.getElem?_eq_some_iff.1 hk).1).trans hk⟩ : KeepsFrom _ W w1).trans (hk2.from _), ?_, ⟨⟨_, hv2, ?_, by simpa [Value.ownBlock] using hgne⟩, hbl.trans (hbW.trans hb2)⟩, ⟨hbw3, hbm3⟩, hbs3⟩
        · intro g1 hg1
          rcases (by simpa using hg1 : g1 = w.heap.size + 1 + 1 + 1 + 1 ∨ g1 = w.heap.size + 1 + 1 + 1) with rfl | rfl
          · exact (show _ = _ from hbm3).trans (show _ = _ from hbm).symm
          · exact (show _ = _ from hbw3).trans (show _ = _ from hbw).symm
        · simpa [HF.out, HCC.out, HN.out] using hr2
  case done =>
    rintro D ys W hD rfl ⟨⟨⟨v, hbx, hrw, hG⟩, hbl⟩, _, _⟩ hK
    have hcb := hbx.cell
    rw [fr_length _ _ (Nat.le_refl _)] at hrw
    gi_wp2
    refine ⟨by simp, .inl ⟨_, _, rfl, run_takeDeferred hK, ?_⟩⟩
    exact ⟨_, results_tmp2 rfl _ _ _, v, rfl, ownsRow_putObj hrw _ hK rfl, hbl.trans (belowK_b (w := w) (Nat.le_refl _) W D _ _ (by omega) hK rfl rfl)⟩
  case stop =>
    rintro D c pre W _ _ h _
    exact h.elim

theorem cN_le (w m j : Nat) (hm : 0 < m) (h : w ≤ 32 * m) : cN w m j ≤ 32 := by
  unfold cN
  have h1 : w / m ≤ 32 := by rw [Nat.div_le_iff_le_mul_add_pred hm]; rw [Nat.mul_comm] at h; rw [Nat.mul_comm]; omega
  by_cases e : w / m = 32
  · have := Nat.div_add_mod w m
    rw [e, Nat.mul_comm] at this
    have : w % m = 0 := by omega
    rw [e, this]; simp
  · split <;> omega

theorem Split_ok (w0 m0 : Nat) (s : ByteArray) (hc0 : chunkedR w0 m0 = 0) (hs : s.size = w0 / 8) (w : World) :
    Calls Tryd.prog 20 #[.int .i64 w0, .int .i64 m0, .string s] w fun e w' => ∃ v, e = .returned (.tuple #[v, .int .i64 0]) ∧ w'.ownsRow w.heap.size 3 1 v m0 (splitV s.data.toList w0 m0 m0) ∧ Below w.heap.size w w' := by
  obtain ⟨a, b, ha, hb, h1, h2, h3, h4, h5⟩ := chunkedR_zero hc0
  obtain rfl : w0 = a := by omega
  obtain rfl : m0 = b := by omega
  exact callsIn_wide.1 (Split_in 6 (by omega) s w0 m0 hc0 hs (by omega) (by omega) (by omega) h2 (fun j _ => cN_le w0 m0 j (by omega) (by omega)) w)
end Go.Proofs.YtldcfgifimdmmaaDoor

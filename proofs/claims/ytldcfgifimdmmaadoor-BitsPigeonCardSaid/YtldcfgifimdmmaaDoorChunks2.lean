/-
  WALKS: Chunks, by the program.
-/
import Derived.Test.YtldcfgifimdmmaaDoorChunks
import Derived.Test.YtldcfgifimdmmaaDoorWidth
import Derived.Laws.AppendOwn
import Derived.Laws.MakeOwn
import Derived.Deep.AppendLies
namespace Go.Proofs.YtldcfgifimdmmaaDoor
open Go.RowKit Go.Shelf
set_option linter.unusedVariables false

/-- The cells of the first n chunks. -/
def chunkC (w m n : Nat) : List Value := (chunkL w m n).flatMap fun x => [.int .i64 (x.2.1 : Int), .int .i64 (x.2.2 : Int)]
theorem chunkC_succ (w m n : Nat) : chunkC w m (n + 1) = chunkC w m n ++ [.int .i64 (cF w m n : Int), .int .i64 (cN w m n : Int)] := by simp [chunkC, chunkL_succ]
theorem chunkinfo : (Tryd.prog.info? 49).map (fun i => (i.zero, i.size, i.bytes)) = some (some (.agg #[.int .i64 0, .int .i64 0]), 2, 16) := by kernel_rfl

attribute [local go_sem] Oper.semAt_some

set_option maxRecDepth 100000 in
set_option maxHeartbeats 2000000 in
theorem Chunks_in (n : Nat) (hn : 3 ≤ n) (w0 m0 : Nat) (hc0 : chunkedR w0 m0 = 0) (hm : 0 < m0) (hm2 : m0 ≤ 1024) (hw : w0 ≤ 1024) (w : World) :
    CallsIn Fence.wide n Tryd.prog 19 #[.int .i64 w0, .int .i64 m0] w fun e w' => ∃ v, e = .returned (.tuple #[v, .int .i64 0]) ∧ w'.ownsRow w.heap.size 49 2 v m0 (chunkC w0 m0 m0) ∧ Below w.heap.size w w' := by
  have h1 : 1 ≤ n := by omega
  have C := fun W => chunked_calls w0 m0 W
  simp only [hc0] at C
  have HC := Lib.hid C
  obtain ⟨i0, hi, hz0, hz1, hz2⟩ := info_parts chunkinfo
  have hmk := fun W : World => run_make (P := Tryd.prog) W 42 49 i0 _ Tryd.underlying42 hi hz0 .i64 .i64 0 m0 (by omega) (by omega) (by rw [hz2]; omega) (by omega)
  clear C hc0
  refine callsIn_of_wp_marks Tryd.func19 rfl trivial ?_ rfl
  simp only [Tryd.ntmps19, List.size_toArray, List.length_cons, List.length_nil, Nat.reduceAdd, Nat.reduceSub, Array.replicate_succ, Array.replicate_zero, List.push_toArray, List.append_toArray, List.nil_append, List.cons_append]
  gi_wp2_with (first
    | (refine ⟨trivial, ?_⟩; gi_at_call 28; refine (callsIn_wide.2 (HC.out _)).mono ?_; rintro e w' ⟨rfl, rfl⟩)
    | (refine ⟨trivial, ?_⟩; gi_at_call 29; refine (callsIn_wide.2 (chunks_calls w0 m0 _)).mono ?_; rintro e w' ⟨rfl, rfl⟩))
  obtain ⟨W0, hW0⟩ : ∃ W0, (((w.alloc (.cells (madeCells #[.int .i64 0, .int .i64 0] (m0 * 2)) 49)).alloc (.cells #[.slice (some ⟨w.heap.size, 0, none⟩) 0 m0] 42)).alloc (.cells #[.int .i64 (w0 : Int)] 3)).alloc (.cells #[.int .i64 (m0 : Int)] 3) = W0 := ⟨_, rfl⟩
  have hsz : W0.heap.size = w.heap.size + 4 := by rw [← hW0]; simp
  have hbox : Boxed W0 (w.heap.size + 1) 42 (.slice (some ⟨w.heap.size, 0, none⟩) 0 m0) := by
    rw [← hW0]
    have := Boxed.new (w.alloc (.cells (madeCells #[.int .i64 0, .int .i64 0] (m0 * 2)) 49)) 42 (.slice (some ⟨w.heap.size, 0, none⟩) 0 m0)
    simp only [World.size_alloc] at this
    exact (this.alloc _).alloc _
  have hbw0 : Boxed W0 (w.heap.size + 1 + 1) 3 (.int .i64 w0) := by
    rw [← hW0]
    have := Boxed.new ((w.alloc (.cells (madeCells #[.int .i64 0, .int .i64 0] (m0 * 2)) 49)).alloc (.cells #[.slice (some ⟨w.heap.size, 0, none⟩) 0 m0] 42)) 3 (.int .i64 (w0 : Int))
    simp only [World.size_alloc] at this
    exact this.alloc _
  have hw0 := hbw0.cell
  have hbm0 : Boxed W0 (w.heap.size + 1 + 1 + 1) 3 (.int .i64 m0) := by
    rw [← hW0]
    have := Boxed.new (((w.alloc (.cells (madeCells #[.int .i64 0, .int .i64 0] (m0 * 2)) 49)).alloc (.cells #[.slice (some ⟨w.heap.size, 0, none⟩) 0 m0] 42)).alloc (.cells #[.int .i64 (w0 : Int)] 3)) 3 (.int .i64 (m0 : Int))
    simp only [World.size_alloc] at this
    exact this
  have hm0 := hbm0.cell
  have hrow : W0.ownsRow w.heap.size 49 2 (.slice (some ⟨w.heap.size, 0, none⟩) 0 m0) 0 [] := by
    rw [← hW0]
    refine (((World.ownsRow.alloc (h := ?_) _).alloc _).alloc _)
    exact World.ownsRow_made w _ m0 (Nat.le_refl _) (by unfold maxLen; omega) (by simp [madeCells])
  have hB0 : Below w.heap.size w W0 := by
    rw [← hW0]; exact ((((Below.refl _ w).alloc (Nat.le_refl _) _).alloc (by simp) _).alloc (by simp; omega) _).alloc (by simp; omega) _
  rw [hW0]
  clear hW0 hmk
  refine wpIn_rangeFunc_ownH rfl h1 (gf := 31) (lb := #[.pointer (some ⟨w.heap.size + 1 + 1 + 1, 0, none⟩), .pointer (some ⟨w.heap.size + 1 + 1, 0, none⟩)]) rfl trivial (enters_of Tryd.func31 (by kernel_rfl) rfl)
    (chunks_stops (n - 1) (by omega) _ _ w0 m0 hm hm2 hw W0 hm0 hw0 (by omega) (by omega)) KeepAt.trans (KeepAt.put (by simp; omega)) (Below.refl _ _) (fun _ => rfl)
    (fun pre W => ((∃ v, Boxed W (w.heap.size + 1) 42 v ∧ W.ownsRow w.heap.size 49 2 v pre.length (pre.flatMap fun x => [.int .i64 (x.2.1 : Int), .int .i64 (x.2.2 : Int)]) ∧ True) ∧ Below w.heap.size w W) ∧
      (Boxed W (w.heap.size + 1 + 1) 3 (.int .i64 w0) ∧ Boxed W (w.heap.size + 1 + 1 + 1) 3 (.int .i64 m0)))
    (fun _ _ _ => False)
    (OwnFrom.and (OwnFrom.and (Own.from (holdsRow_own _ _ _ _ _ _ _ _) _) (ownFrom_below (Nat.le_refl _) (by omega))) (OwnFrom.and (Own.from (boxed_own _ _ (fun _ => _)) _) (Own.from (boxed_own _ _ (fun _ => _)) _)))
    (fun _ _ _ _ _ hs _ _ => hs)
    ⟨⟨⟨_, hbox, hrow, trivial⟩, hB0⟩, hbw0, hbm0⟩
    (fun x a' W => ∃ p, (∃ u21 u22, a' = { tmps := #[.int .i64 w0, .int .i64 m0, undef, undef, .slice none 0 0, .int .i64 0, .int .i64 0, .pointer (some ⟨w.heap.size + 1, 0, none⟩), undef, .pointer (some ⟨p, 0, none⟩), .int .i64 w0, .int .i64 m0, .int .i64 0, .int .i64 0, .bool false, undef, .int .i64 m0,
      .slice (some ⟨w.heap.size, 0, none⟩) 0 m0, .int .i64 w0, .int .i64 m0, .func (.func 31) #[] #[.pointer (some ⟨w.heap.size + 1 + 1 + 1, 0, none⟩), .pointer (some ⟨w.heap.size + 1 + 1, 0, none⟩)], u21, u22, undef, undef, undef, undef, undef], defers := [] }) ∧
      W.heap[p]? = some (.cells #[.int .i64 (x.2.1 : Int), .int .i64 (x.2.2 : Int)] 49 (0, 0)) ∧ w.heap.size + 4 ≤ p) ?hax ?assign ?body ?done ?stop
  case hax =>
    rintro x a' _ X Y row ⟨p, he, hp, hle⟩ hg hr
    exact ⟨p, he, (hg.block p (Array.getElem?_eq_some_iff.1 hp).1 (fun e' => by obtain ⟨_, o, ho, hc⟩ := hr p e'.symm; rw [hp] at ho; cases ho; cases hc)).trans hp, hle⟩
  case assign =>
    rintro l pre x W K ⟨⟨⟨v, hbx, hrw, _⟩, hbl⟩, hbw, hbm⟩ hK
    have hle : w.heap.size + 4 ≤ W.heap.size := by have := hbm.lt; omega
    simp only [chunkA]
    gi_wp2
    exact hK _ _ ((KeepsOthers.alloc _ _).from _) (KeepAt.alloc (by simp; omega) _) ⟨⟨⟨v, hbx.alloc _, hrw.alloc _, trivial⟩, hbl.alloc hbl.size _⟩, hbw.alloc _, hbm.alloc _⟩ ⟨W.heap.size, ⟨_, _, rfl⟩, heap_alloc_new W _, hle⟩
  case body =>
    rintro l pre x a' W _ _ ⟨⟨⟨v, hbx, hrw, _⟩, hbl⟩, hbw, hbm⟩ ⟨p, ⟨u21, u22, rfl⟩, hp, hle⟩ hlen
    have hcb := hbx.cell
    have hcf := hbx.frozen
    have c0 : W.cell? ⟨p, 0, none⟩ = some (.int .i64 (x.2.1 : Int)) := by rw [cell_of_row W p 0 _ _ _ hp]; rfl
    have c1 : W.cell? ⟨p, 1, none⟩ = some (.int .i64 (x.2.2 : Int)) := by rw [cell_of_row W p 1 _ _ _ hp]; rfl
    have hne1 := hbw.not_row (by decide) hrw
    have hne2 := hbm.not_row (by decide) hrw
    gi_wp2_with (gi_at_builtin; refine wpListIn_append_own _ rfl _ _ 42 rfl w.heap.size 49 i0 (.agg #[.int .i64 0, .int .i64 0]) 2 16 Tryd.underlying42 hi hz0 hz1 hz2 rfl (by decide) _ _ _ rfl (hrw.alloc _) ⟨W.heap.size, 0, none⟩ 1 1 [.int .i64 (x.2.1 : Int), .int .i64 (x.2.2 : Int)] rfl rfl (World.news_of_block (heap_alloc_new W _)) (by simp [Value.oneCell']) (by unfold maxLen; omega) (by omega) (by have := hbl.size; simp; omega) ?_; intro v' w1 hown' hgrow _; obtain ⟨g', cap', rfl⟩ := ownsRow_succ hown'; obtain ⟨hv1, hv2, hr2, hk2, hb2⟩ := hbx.appended (by decide) hrw hbl.size (by omega) hown' hgrow; have hcc1 := hv1.cell; have hcf1 := hv1.frozen)
    have hka : KeepAt [w.heap.size + 1 + 1 + 1, w.heap.size + 1 + 1] W (w1.setCell ⟨w.heap.size + 1, 0, none⟩ (.slice (some ⟨g', 0, none⟩) (pre.length + 1) cap')) := by
      refine KeepAt.trans (KeepAt.alloc (by have := hbm.lt; simp; omega) _) (KeepAt.trans (KeepAt.grown hgrow ?_) (KeepAt.setCell (by simp; omega) _))
      intro g hg
      have := hbm.lt
      rcases (by simpa using hg : g = w.heap.size + 1 + 1 + 1 ∨ g = w.heap.size + 1 + 1) with rfl | rfl
      · exact ⟨by simp; omega, hne2⟩
      · exact ⟨by simp; omega, hne1⟩
    exact ⟨hk2.from _, hka, ⟨⟨_, hv2, by simpa using hr2, trivial⟩, hbl.trans hb2⟩, (hka _ (by simp)).trans hbw, (hka _ (by simp)).trans hbm⟩
  case done =>
    rintro D ys W hD rfl ⟨⟨⟨v, hbx, hrw, _⟩, hbl⟩, _, _⟩ hK
    have hcb := hbx.cell
    rw [chunkL_length] at hrw
    gi_wp2
    refine ⟨by simp, .inl ⟨_, _, rfl, run_takeDeferred hK, ?_⟩⟩
    exact ⟨_, results_tmp2 rfl _ _ _, v, rfl, ownsRow_putObj hrw _ hK rfl, hbl.trans (belowK_b (w := w) (Nat.le_refl _) W D _ _ (by omega) hK rfl rfl)⟩
  case stop =>
    rintro D c pre W _ _ h _
    exact h.elim

theorem Chunks_ok (w0 m0 : Nat) (hc0 : chunkedR w0 m0 = 0) (w : World) :
    Calls Tryd.prog 19 #[.int .i64 w0, .int .i64 m0] w fun e w' => ∃ v, e = .returned (.tuple #[v, .int .i64 0]) ∧ w'.ownsRow w.heap.size 49 2 v m0 (chunkC w0 m0 m0) ∧ Below w.heap.size w w' := by
  obtain ⟨a, b, ha, hb, h1, h2, h3, h4, h5⟩ := chunkedR_zero hc0
  obtain rfl : w0 = a := by omega
  obtain rfl : m0 = b := by omega
  exact callsIn_wide.1 (Chunks_in 3 (by omega) w0 m0 hc0 (by omega) (by omega) h2 w)

set_option maxHeartbeats 1000000 in
theorem Chunks_no (a b : Int) (hc0 : chunkedR a b ≠ 0) (w : World) :
    Calls Tryd.prog 19 #[.int .i64 a, .int .i64 b] w fun e w' => e = .returned (.tuple #[.slice none 0 0, .int .i64 (chunkedR a b)]) ∧ w = w' := by
  have C := chunked_calls a b w
  have hne : (chunkedR a b != 0) = true := by rw [bne_iff_ne]; exact hc0
  obtain ⟨c, hc⟩ : ∃ c, chunkedR a b = c := ⟨_, rfl⟩
  rw [hc] at C hne
  rw [hc]
  clear hc hc0
  go_enter Tryd.func19, Tryd.ntmps19
  go_wp2_with fail
  refine C.mono ?_
  rintro e w1 ⟨rfl, rfl⟩
  go_wp2
  go_ret2
  exact ⟨rfl, rfl⟩
end Go.Proofs.YtldcfgifimdmmaaDoor

/-
  WALK: the first entries that do not stand ahead of a place (From).
-/
import Derived.Test.YtihgjihdmlomaaaDoorJBsG
namespace Go.Proofs.YtihgjihdmlomaaaDoor
open Go.RowKit ArgK Go.Shelf
set_option linter.unusedVariables false
attribute [local go_sem] Oper.semAt_some

/-- From's step at an entry. -/
def addF (en : Ent) (M : Nat) (F : List Ent) (y : Ent) : List Ent := if F.length < M then (if 0 ≤ cmpE y en then F ++ [y] else F) else F

/-- What From tells from block i on, and how many blocks it has read then. -/
def fromR (l : List Ent) (ls : List Ln) (en : Ent) (M : Nat) : Nat → Nat → List Ent → Nat → List Ent × Nat
  | 0, _, out, r => (out, r)
  | f + 1, i, out, r => if ((blkL l ls i).foldl (addF en M) out).length = M then ((blkL l ls i).foldl (addF en M) out, r + 1) else fromR l ls en M f (i + 1) ((blkL l ls i).foldl (addF en M) out) (r + 1)

theorem addF_len (en : Ent) (M : Nat) (F : List Ent) (y : Ent) : (addF en M F y).length ≤ F.length + 1 := by
  unfold addF
  split
  · split
    · simp
    · omega
  · omega
theorem foldF_len (en : Ent) (M : Nat) : ∀ (bl F : List Ent), (bl.foldl (addF en M) F).length ≤ F.length + bl.length
  | [], F => by simp
  | y :: bl, F => by
    have h1 := foldF_len en M bl (addF en M F y)
    have h2 := addF_len en M F y
    simp only [List.foldl_cons, List.length_cons]
    omega

theorem foldF_leM (en : Ent) (M : Nat) : ∀ (bl F : List Ent), F.length ≤ M → (bl.foldl (addF en M) F).length ≤ M
  | [], F, h => h
  | y :: bl, F, h => by
    refine foldF_leM en M bl (addF en M F y) ?_
    unfold addF
    split
    · split
      · simp; omega
      · omega
    · omega

/-- Behind the comparison. -/
theorem from_mid {D ob n : Nat} {wr w3 : World} {y : Ent} {v' : Value} {xs : List Value} (q1 : wr.heap[ob]? = some (.cells #[v'] 24 (0, 0))) (q2 : wr.ownsRow D 33 5 v' n xs) (hb3 : Below (wr.alloc (.cells #[.int .i64 y.v, .string y.c, .int .i64 y.i, .int .i64 y.s, .bool y.d] 33)).heap.size (wr.alloc (.cells #[.int .i64 y.v, .string y.c, .int .i64 y.i, .int .i64 y.s, .bool y.d] 33)) w3) :
    w3.cell? ⟨ob, 0, none⟩ = some v' ∧ w3.cell? ⟨wr.heap.size, 0, none⟩ = some (.int .i64 y.v) ∧ w3.cell? ⟨wr.heap.size, 1, none⟩ = some (.string y.c) ∧ w3.cell? ⟨wr.heap.size, 2, none⟩ = some (.int .i64 y.i) ∧ w3.cell? ⟨wr.heap.size, 3, none⟩ = some (.int .i64 y.s) ∧ w3.cell? ⟨wr.heap.size, 4, none⟩ = some (.bool y.d) ∧
      Hid ((w3.alloc (.cells #[.int .i64 y.v, .string y.c, .int .i64 y.i, .int .i64 y.s, .bool y.d] 33)).ownsRow D 33 5 v' n xs) ∧ Hid (∀ j u, [Value.int .i64 y.v, .string y.c, .int .i64 y.i, .int .i64 y.s, .bool y.d][j]? = some u → (w3.alloc (.cells #[.int .i64 y.v, .string y.c, .int .i64 y.i, .int .i64 y.s, .bool y.d] 33)).cell? ((⟨w3.heap.size, 0, none⟩ : Addr).add j) = some u) ∧
      Hid (Below wr.heap.size wr (w3.alloc (.cells #[.int .i64 y.v, .string y.c, .int .i64 y.i, .int .i64 y.s, .bool y.d] 33))) ∧ Hid (Below wr.heap.size wr w3) ∧ Hid (wr.heap.size ≤ w3.heap.size) := by
  have hA := (Below.refl wr.heap.size wr).alloc (Nat.le_refl _) (.cells #[.int .i64 y.v, .string y.c, .int .i64 y.i, .int .i64 y.s, .bool y.d] 33)
  have hb : Below wr.heap.size wr w3 := hA.trans (hb3.mono (by simp))
  have hob := (Array.getElem?_eq_some_iff.1 q1).1
  have h1 := (hb3.block wr.heap.size (by simp)).trans (World.alloc_heap_new wr (.cells #[.int .i64 y.v, .string y.c, .int .i64 y.i, .int .i64 y.s, .bool y.d] 33))
  refine ⟨(arr_cell ((hb.block ob hob).trans q1) (k := 0) rfl).1, (arr_cell h1 (k := 0) rfl).1, (arr_cell h1 (k := 1) rfl).1, (arr_cell h1 (k := 2) rfl).1, (arr_cell h1 (k := 3) rfl).1, (arr_cell h1 (k := 4) rfl).1, Lib.hid ((own_belowAll q2 hb).alloc _), Lib.hid ?_, Lib.hid (hb.alloc hb.size _), Lib.hid hb, Lib.hid hb.size⟩
  exact World.news_of_block (World.alloc_heap_new w3 (.cells #[.int .i64 y.v, .string y.c, .int .i64 y.i, .int .i64 y.s, .bool y.d] 33))

set_option maxRecDepth 100000 in
set_option maxHeartbeats 8000000 in
theorem From_calls (base fb : Nat) (h : Hd) (l : List Ent) (r0 : Nat) (en : Ent) (M : Nat) (hM : 0 < M) (hM2 : M ≤ 9223372036854775807) (w : World) (hF : FileAt w base fb h l r0) (hn : (linesB h l).length ≤ 2097152) (hsum : ((linesB h l).map Ln.count).sum = l.length) (hl2 : l.length ≤ 2097152) (hcp : ∀ x ∈ linesB h l, 0 < x.count) (hr0 : r0 ≤ 4611686018427387904)
    (hmono : ∀ i j, i ≤ j → j < (linesB h l).length → behindI en (linesB h l) i = true → behindI en (linesB h l) j = true) :
    Calls Tryd.prog 23 #[.pointer (some ⟨fb, 0, none⟩), en.val, .int .i64 (M : Int)] w fun e w' =>
      ∃ s v, Parted (behindI en (linesB h l)) (linesB h l).length s ∧ e = .returned v ∧
        w'.ownsRow w.heap.size 33 5 v (fromR l (linesB h l) en M ((linesB h l).length - (s - 1)) (s - 1) [] r0).1.length (encE (fromR l (linesB h l) en M ((linesB h l).length - (s - 1)) (s - 1) [] r0).1) ∧
        FileAt w' base fb h l ((fromR l (linesB h l) en M ((linesB h l).length - (s - 1)) (s - 1) [] r0).2 : Nat) ∧ w.grownBy w' (some fb) := by
  have hb2 : Below w.heap.size w (((w.alloc (.cells #[.int .i64 en.v, .string en.c, .int .i64 en.i, .int .i64 en.s, .bool en.d] 33)).alloc (.cells #[.int .i64 (M : Int)] 3)).alloc (.cells #[.slice none 0 0] 24)) := (((Below.refl _ w).alloc (Nat.le_refl _) _).alloc (by simp) _).alloc (by simp; omega) _
  have CB := fblocks_calls base fb h l r0 en _ (hF.below hb2) hn (by omega) hmono
  unfold Ent.val at CB
  unfold Ent.val
  obtain ⟨i0, hi, hz0, hz1, hz2⟩ := info_parts entinfo6
  have HCB := Lib.hid CB
  have HF := Lib.hid hF
  have h1 := World.alloc_heap_new w (.cells #[.int .i64 en.v, .string en.c, .int .i64 en.i, .int .i64 en.s, .bool en.d] 33)
  have h2 := World.alloc_heap_new (w.alloc (.cells #[.int .i64 en.v, .string en.c, .int .i64 en.i, .int .i64 en.s, .bool en.d] 33)) (.cells #[.int .i64 (M : Int)] 3)
  have h3 := World.alloc_heap_new ((w.alloc (.cells #[.int .i64 en.v, .string en.c, .int .i64 en.i, .int .i64 en.s, .bool en.d] 33)).alloc (.cells #[.int .i64 (M : Int)] 3)) (.cells #[.slice none 0 0] 24)
  rw [World.size_alloc] at h2
  rw [World.size_alloc, World.size_alloc] at h3
  have h1' := (Below.heap_alloc ((w.alloc (.cells #[.int .i64 en.v, .string en.c, .int .i64 en.i, .int .i64 en.s, .bool en.d] 33)).alloc (.cells #[.int .i64 (M : Int)] 3)) (.cells #[.slice none 0 0] 24) w.heap.size (by simp; omega)).trans ((Below.heap_alloc (w.alloc (.cells #[.int .i64 en.v, .string en.c, .int .i64 en.i, .int .i64 en.s, .bool en.d] 33)) (.cells #[.int .i64 (M : Int)] 3) w.heap.size (by simp)).trans h1)
  have h2' := (Below.heap_alloc ((w.alloc (.cells #[.int .i64 en.v, .string en.c, .int .i64 en.i, .int .i64 en.s, .bool en.d] 33)).alloc (.cells #[.int .i64 (M : Int)] 3)) (.cells #[.slice none 0 0] 24) (w.heap.size + 1) (by simp)).trans h2
  have H1 := Lib.hid h1'
  have H2 := Lib.hid h2'
  have H3 := Lib.hid h3
  have HB2 := Lib.hid hb2
  have hM1 : ¬ ((M : Int) < 1) := by omega
  clear CB hF h1 h2 h3 h1' h2' hb2
  refine (callsIn_wide (n := 5)).1 ?_
  refine callsIn_of_wp_marks Tryd.func23 rfl trivial ?_ rfl
  refine wpIn_wide.2 ?_
  simp only [Tryd.ntmps23, List.size_toArray, List.length_cons, List.length_nil, Nat.reduceAdd, Nat.reduceSub, Array.replicate_succ, Array.replicate_zero, List.push_toArray, List.append_toArray, List.nil_append, List.cons_append]
  go_wp2_with fail
  refine HCB.out.mono ?_
  rintro e w1 ⟨b6, b2, b7, s, rfl, hpt, k6, k2, k7, l6, l2, l7, n67, n27, n26, hb1⟩
  go_wp2_with fail
  have hsz : (((w.alloc (.cells #[.int .i64 en.v, .string en.c, .int .i64 en.i, .int .i64 en.s, .bool en.d] 33)).alloc (.cells #[.int .i64 (M : Int)] 3)).alloc (.cells #[.slice none 0 0] 24)).heap.size = w.heap.size + 1 + 1 + 1 := by simp
  rw [hsz] at l6 l2 l7
  have hs1 := hb1.size
  rw [hsz] at hs1
  have hbl1 : Below w.heap.size w w1 := HB2.out.trans (hb1.mono (by rw [hsz]; omega))
  have v1 : w1.heap[w.heap.size]? = some (.cells #[.int .i64 en.v, .string en.c, .int .i64 en.i, .int .i64 en.s, .bool en.d] 33) := (hb1.block _ (by rw [hsz]; omega)).trans H1.out
  have m1 : w1.heap[w.heap.size + 1]? = some (.cells #[.int .i64 (M : Int)] 3 (0, 0)) := (hb1.block _ (by rw [hsz]; omega)).trans H2.out
  have o1 : w1.heap[w.heap.size + 1 + 1]? = some (.cells #[.slice none 0 0] 24 (0, 0)) := (hb1.block _ (by rw [hsz]; omega)).trans H3.out
  obtain ⟨lp, lc, q, c, hf, hrw⟩ := HF.out.rows
  have hown := hrw.own
  have hfw := (Array.getElem?_eq_some_iff.1 hf).1
  have hf1 := (hbl1.block fb hfw).trans hf
  have hlc : l.length ≤ lc := own_cap hown
  obtain ⟨ls, hls⟩ : ∃ ls, linesB h l = ls := ⟨_, rfl⟩
  obtain ⟨N, hN⟩ : ∃ N, ls.length = N := ⟨_, rfl⟩
  rw [hls] at hn hsum hcp hmono hpt k7 hf1
  rw [hN] at hn hmono hpt hf1
  obtain ⟨f, hfs⟩ : ∃ f, s - 1 = f := ⟨_, rfl⟩
  rw [hfs] at k6 k7
  obtain ⟨R, hR⟩ : ∃ R, fromR l ls en M (N - f) f [] r0 = R := ⟨_, rfl⟩
  obtain ⟨g, hlp⟩ : ∃ g, 0 < N → lp = some ⟨g, 0, none⟩ := by
    obtain ⟨q', c', e', _, _, hq⟩ := own_rd hown
    simp only [Value.slice.injEq] at e'
    obtain ⟨rfl, _, rfl⟩ := e'
    by_cases h0 : 0 < l.length
    · obtain ⟨g, rfl, _⟩ := hq h0
      exact ⟨g, fun _ => rfl⟩
    · refine ⟨0, fun hN0 => absurd hsum ?_⟩
      obtain ⟨x, hx⟩ : ∃ x, ls[0]? = some x := ⟨_, List.getElem?_eq_getElem (by omega)⟩
      have h1 := offL_succ hx
      have h2 := offL_le ls (0 + 1)
      have h3 := hcp x (List.mem_of_getElem? hx)
      omega
  obtain ⟨D, hD⟩ : ∃ D, w1.heap.size = D := ⟨_, rfl⟩
  have hDw : w.heap.size + 1 + 1 + 1 ≤ D := by omega
  have hn6 := (Array.getElem?_eq_some_iff.1 k6).1
  have hn2 := (Array.getElem?_eq_some_iff.1 k2).1
  have hn7 := (Array.getElem?_eq_some_iff.1 k7).1
  have hne8 : fb ≠ w.heap.size ∧ fb ≠ w.heap.size + 1 + 1 ∧ fb ≠ b6 ∧ fb ≠ b2 ∧ fb ≠ b7 := by omega
  have hne7 : b7 ≠ w.heap.size ∧ b7 ≠ w.heap.size + 1 + 1 ∧ b7 ≠ b6 ∧ b7 ≠ b2 ∧ b7 ≠ fb := by omega
  have hm8 : w.heap.size + 1 ≠ fb := by omega
  have hm7 : w.heap.size + 1 ≠ b7 := by omega
  have hst : ∀ i, f ≤ i → r0 + (i + 1 - f) = r0 + (i - f) + 1 := fun i hi => by omega
  let Q0 : Nat → Nat → List Ent → Prop := fun i r out => fromR l ls en M (N - i) i out r = R ∧ out.length ≤ offL ls i ∧ out.length < M
  let I : Nat → World → Prop := fun i W => FiI w D fb b6 b2 b7 f w.heap.size (w.heap.size + 1 + 1) #[.int .i64 en.v, .string en.c, .int .i64 en.i, .int .i64 en.s, .bool en.d] 33 h l lp lc q c N i (r0 + (i - f)) (Q0 i (r0 + (i - f))) W ∧ W.heap[w.heap.size + 1]? = some (.cells #[.int .i64 (M : Int)] 3 (0, 0))
  let I1 : Nat → World → Prop := fun i W => FiI w D fb b6 b2 b7 f w.heap.size (w.heap.size + 1 + 1) #[.int .i64 en.v, .string en.c, .int .i64 en.i, .int .i64 en.s, .bool en.d] 33 h l lp lc q c N i (r0 + (i - f) + 1) (Q0 i (r0 + (i - f))) W ∧ W.heap[w.heap.size + 1]? = some (.cells #[.int .i64 (M : Int)] 3 (0, 0))
  let I2 : Nat → World → Prop := fun i W => FiI w D fb b6 b2 b7 f w.heap.size (w.heap.size + 1 + 1) #[.int .i64 en.v, .string en.c, .int .i64 en.i, .int .i64 en.s, .bool en.d] 33 h l lp lc q c N i (r0 + (i - f) + 1) (Q0 (i + 1) (r0 + (i - f) + 1)) W ∧ W.heap[w.heap.size + 1]? = some (.cells #[.int .i64 (M : Int)] 3 (0, 0))
  let Ix : Nat → World → Prop := fun i W => FiI w D fb b6 b2 b7 f w.heap.size (w.heap.size + 1 + 1) #[.int .i64 en.v, .string en.c, .int .i64 en.i, .int .i64 en.s, .bool en.d] 33 h l lp lc q c N i (r0 + (i - f) + 1) (fun out => R = (out, r0 + (i - f) + 1)) W ∧ W.heap[w.heap.size + 1]? = some (.cells #[.int .i64 (M : Int)] 3 (0, 0))
  have hB : Bears base fb b6 b2 b7 f h l lp lc r0 N I I1 I2 :=
    { it := fun i W hI => ⟨hI.1.lo, ⟨hI.1.k6, hI.1.k2, hI.1.k7, hrw.file hI.1.gr (by rw [hls, hN]; exact hI.1.own8)⟩, q, c, hI.1.own8⟩
      s1 := fun i W n hI hi => ⟨(hI.1.set8 hne8).drewN n, (Below.heap_setCell W ⟨fb, 8, none⟩ _ _ hm8).trans hI.2⟩
      it1 := fun i W hI => ⟨hI.1.lo, ⟨hI.1.k6, hI.1.k2, hI.1.k7, hrw.file hI.1.gr (by rw [hls, hN]; exact hI.1.own8)⟩, q, c, hI.1.own8⟩
      d1 := fun i W n hI => ⟨hI.1.drewN n, hI.2⟩
      it2 := fun i W hI => ⟨_, hI.1.k7⟩
      s2 := fun i W hI hi => by
        refine ⟨?_, (Below.heap_setCell W ⟨b7, 0, none⟩ _ _ hm7).trans hI.2⟩
        show FiI _ _ _ _ _ _ _ _ _ _ _ _ _ _ _ _ _ _ _ _ _ _
        rw [hst i hI.1.lo]
        exact hI.1.set7 hne7 (by omega) }
  have hI0 : I f w1 := by
    refine ⟨⟨Nat.le_refl _, v1, k6, k2, by rw [hls]; exact k7, ?_, ⟨hbl1.os, hbl1.tape, hbl1.output, hbl1.size, fun k hk _ => hbl1.block k hk⟩, by omega, [], .slice none 0 0, o1, World.ownsRow_nil _ _ _ _, ?_, Nat.zero_le _, hM⟩, m1⟩
    · rw [Nat.sub_self, Nat.add_zero]; exact hf1
    · rw [Nat.sub_self, Nat.add_zero]; exact hR
  have hmo : ∀ (A B : World) (row : Option Nat), A.grownBy B row → (∀ k, row = some k → w1.heap.size ≤ k ∧ ∃ o : Obj, A.heap[k]? = some o ∧ o.isCells = false) → A.heap[w.heap.size + 1]? = some (.cells #[.int .i64 (M : Int)] 3 (0, 0)) → B.heap[w.heap.size + 1]? = some (.cells #[.int .i64 (M : Int)] 3 (0, 0)) := fun A B row hg hr hm => (grownBy_keeps_cells hg (fun k e => (hr k e).2) hm rfl).trans hm
  have hfb1 : fb < w1.heap.size := by omega
  have HEnd : Hid (∀ (out : List Ent) (rr : Nat) (v : Value) (W : World), R = (out, rr) → W.ownsRow w.heap.size 33 5 v out.length (encE out) → FileAt W base fb h l (rr : Nat) → w.grownBy W (some fb) → ∃ s v', Parted (behindI en (linesB h l)) (linesB h l).length s ∧ Ending.returned v = Ending.returned v' ∧
        W.ownsRow w.heap.size 33 5 v' (fromR l (linesB h l) en M ((linesB h l).length - (s - 1)) (s - 1) [] r0).1.length (encE (fromR l (linesB h l) en M ((linesB h l).length - (s - 1)) (s - 1) [] r0).1) ∧
        FileAt W base fb h l ((fromR l (linesB h l) en M ((linesB h l).length - (s - 1)) (s - 1) [] r0).2 : Nat) ∧ w.grownBy W (some fb)) := Lib.hid (fun out rr v W e1 e2 e3 e4 => by
    refine ⟨s, v, ?_, rfl, ?_, ?_, e4⟩
    · rw [hls, hN]; exact hpt
    · rw [hls, hN, hfs, hR, e1]; exact e2
    · rw [hls, hN, hfs, hR, e1]; exact e3)
  have HR := Lib.hid hR
  have HLS := Lib.hid hls
  have HB := Lib.hid hB
  refine range_law base fb b6 b2 b7 f h l lp g lc r0 N hlp (by rw [hls]; exact hN) hn (by rw [hls]; exact hsum) hl2 hlc (by rw [hls]; exact hcp) hr0 rfl I I1 I2 Ix 0 hB
    (fun i A B row hs hg hr => ⟨hs.1.own (by omega) hg (by rw [← hD]; exact hr), hmo A B row hg hr hs.2⟩) (fun i A B row hs hg hr => ⟨hs.1.own (by omega) hg (by rw [← hD]; exact hr), hmo A B row hg hr hs.2⟩) (fun i A B row hs hg hr => ⟨hs.1.own (by omega) hg (by rw [← hD]; exact hr), hmo A B row hg hr hs.2⟩) (fun i A B row hs hg hr => ⟨hs.1.own (by omega) hg (by rw [← hD]; exact hr), hmo A B row hg hr hs.2⟩)
    hfb1 hn7 hI0 (fun x => { tmps := (#[.pointer (some ⟨fb, 0, none⟩), .agg #[.int .i64 en.v, .string en.c, .int .i64 en.i, .int .i64 en.s, .bool en.d], .int .i64 (M : Int), undef, .pointer (some ⟨w.heap.size, 0, none⟩), .pointer (some ⟨w.heap.size + 1, 0, none⟩), .slice none 0 0, .pointer (some ⟨w.heap.size + 1 + 1, 0, none⟩), x, undef, undef, .int .i64 (M : Int), .bool false, undef, .pointer (some ⟨fb, 0, none⟩), .agg #[.int .i64 en.v, .string en.c, .int .i64 en.i, .int .i64 en.s, .bool en.d], .func (.func 77) #[] #[.pointer (some ⟨b6, 0, none⟩), .pointer (some ⟨b2, 0, none⟩), .pointer (some ⟨b7, 0, none⟩)], x, undef, undef, undef, undef, undef, undef, undef, undef, undef, undef, undef, undef, undef, undef, undef, undef, undef, undef, undef, undef, undef, undef, undef, undef, undef, undef] : Array Value), defers := [] }) ?assign ?body ?done ?stop
  case assign =>
    intro L x W K hK
    gi_wp2
    exact hK
  case body =>
    intro L i W hI1 hiN
    obtain ⟨hI1, hmb⟩ := hI1
    obtain ⟨x, hx⟩ : ∃ x, ls[i]? = some x := ⟨_, List.getElem?_eq_getElem (by omega)⟩
    have hxc := hcp x (List.mem_of_getElem? hx)
    have hos := offL_succ hx
    have hol := offL_le ls (i + 1)
    obtain rfl := hlp (by omega)
    have hownW := own_grown hrw.own hI1.gr (fun k hk e => hrw.ne1 (by rw [hk, e]))
    have hgw : g < w.heap.size := (hrw.own.lt g rfl).2
    obtain ⟨out, v, p1, p2, p3, p4, p5⟩ := hI1.out
    obtain ⟨BL, hBL⟩ : ∃ BL, blkL l ls i = BL := ⟨_, rfl⟩
    obtain ⟨O, hO⟩ : ∃ O, offL ls i = O := ⟨_, rfl⟩
    obtain ⟨cnt, hcn⟩ : ∃ cnt, x.count = cnt := ⟨_, rfl⟩
    rw [hO, hcn] at hos
    rw [hcn] at hxc
    have hBl : BL = (l.drop O).take cnt := by
      rw [← hBL]
      unfold blkL
      rw [hO, hos, show O + cnt - O = cnt by omega]
    have hBn : BL.length = cnt := by
      rw [hBl, List.length_take, List.length_drop]
      omega
    have hBg : ∀ j y, BL[j]? = some y → l[O + j]? = some y := fun j y hy => by
      have hj := (List.getElem?_eq_some_iff.1 hy).1
      rw [hBl, List.getElem?_take_of_lt (by omega), List.getElem?_drop] at hy
      exact hy
    have hvb0 := (arr_cell hI1.vb (k := 0) (v := .int .i64 en.v) rfl).1
    have hvb1 := (arr_cell hI1.vb (k := 1) (v := .string en.c) rfl).1
    have hvb2 := (arr_cell hI1.vb (k := 2) (v := .int .i64 en.i) rfl).1
    have hvb3 := (arr_cell hI1.vb (k := 3) (v := .int .i64 en.s) rfl).1
    have hvb4 := (arr_cell hI1.vb (k := 4) (v := .bool en.d) rfl).1
    have hmc := (arr_cell hmb (k := 0) (v := .int .i64 (M : Int)) rfl).1
    have hDW := hI1.sz
    have hbk : blkV g lc (linesB h l) i = .slice (some ⟨g, O * 5, none⟩) cnt (lc - O) := by
      unfold blkV
      rw [HLS.out, hO, hos, show O + cnt - O = cnt by omega]
    rw [hbk]
    have HI := Lib.hid hI1
    have HOw := Lib.hid hownW
    have HBg := Lib.hid hBg
    have HP3 := Lib.hid p3
    have HMB := Lib.hid hmb
    have HBl := Lib.hid hBL
    have hp4 : out.length ≤ O := by rw [← hO]; exact p4
    have H0 : Hid (Cr D (w.heap.size + 1 + 1) W W ∧ ∃ v', W.heap[w.heap.size + 1 + 1]? = some (.cells #[v'] 24 (0, 0)) ∧ W.ownsRow D 33 5 v' ((BL.take 0).foldl (addF en M) out).length (encE ((BL.take 0).foldl (addF en M) out))) := Lib.hid ⟨Cr.refl _ _ _, v, p1, by simpa using p2⟩
    clear hbk hownW hBg p1 p2 p3 p4 hI1 hBl hBL hmb
    gi_wp2
    gi_loopw [20] (fun jv wr => ∃ j : Nat, jv = .int .i64 j ∧ j ≤ cnt ∧ Cr D (w.heap.size + 1 + 1) W wr ∧ ∃ v', wr.heap[w.heap.size + 1 + 1]? = some (.cells #[v'] 24 (0, 0)) ∧ wr.ownsRow D 33 5 v' ((BL.take j).foldl (addF en M) out).length (encE ((BL.take j).foldl (addF en M) out))) (fun jv _ => cnt - (intOf jv).toNat)
    case atStart => exact ⟨0, rfl, Nat.zero_le _, H0.out⟩
    case round =>
      obtain ⟨j, rfl, hj, hcr, v', q1, q2⟩ := hrel
      obtain ⟨q', c', rfl, _⟩ := own_rd q2
      have hwv := hcr.low w.heap.size (by omega) (by omega)
      have hv0 := (World.cell?_of_block (a := ⟨w.heap.size, 0, none⟩) hwv).trans hvb0
      have hv1 := (World.cell?_of_block (a := ⟨w.heap.size, 1, none⟩) hwv).trans hvb1
      have hv2 := (World.cell?_of_block (a := ⟨w.heap.size, 2, none⟩) hwv).trans hvb2
      have hv3 := (World.cell?_of_block (a := ⟨w.heap.size, 3, none⟩) hwv).trans hvb3
      have hv4 := (World.cell?_of_block (a := ⟨w.heap.size, 4, none⟩) hwv).trans hvb4
      have hmr := (World.cell?_of_block (a := ⟨w.heap.size + 1, 0, none⟩) (hcr.low (w.heap.size + 1) (by omega) (by omega))).trans hmc
      have x1 := (arr_cell q1 (k := 0) rfl).1
      have hws : D ≤ wr.heap.size := Nat.le_trans hDW hcr.size
      have hn1 : ¬ (wr.heap.size = w.heap.size) := by omega
      have hn2 : ¬ (w.heap.size = wr.heap.size) := by omega
      have hn3 : ¬ (wr.heap.size = w.heap.size + 1 + 1) := by omega
      have hn4 : ¬ (w.heap.size + 1 + 1 = wr.heap.size) := by omega
      have hn5 : w.heap.size < wr.heap.size := by omega
      have hn6 : ¬ (wr.heap.size = w.heap.size + 1) := by omega
      have hn7 : ¬ (w.heap.size + 1 = wr.heap.size) := by omega
      have hx1 : w.heap.size + 1 + 1 < wr.heap.size := by omega
      have hx2 : w.heap.size + 1 < wr.heap.size := by omega
      by_cases hlt : j < cnt
      · obtain ⟨y, hy⟩ : ∃ y, BL[j]? = some y := ⟨_, List.getElem?_eq_getElem (by omega)⟩
        have hly := HBg.out j y hy
        obtain ⟨y0, y1, y2, y3, y4⟩ := own_fiveE HOw.out hly
        have hgb := hcr.low g (by omega) (by omega)
        rw [show (O + j) * 5 = O * 5 + j * 5 by omega] at y0 y1 y2 y3 y4
        have z0 := (World.cell?_of_block (a := ⟨g, O * 5 + j * 5, none⟩) hgb).trans y0
        have z1 := (World.cell?_of_block (a := ⟨g, O * 5 + j * 5 + 1, none⟩) hgb).trans y1
        have z2 := (World.cell?_of_block (a := ⟨g, O * 5 + j * 5 + 2, none⟩) hgb).trans y2
        have z3 := (World.cell?_of_block (a := ⟨g, O * 5 + j * 5 + 3, none⟩) hgb).trans y3
        have z4 := (World.cell?_of_block (a := ⟨g, O * 5 + j * 5 + 4, none⟩) hgb).trans y4
        have htk : BL.take (j + 1) = BL.take j ++ [y] := by rw [List.take_add_one, hy]; rfl
        have i0' : (0 : Int) ≤ (j : Int) := by omega
        have i1' : (j : Int) < (cnt : Int) := by omega
        obtain ⟨F, hF⟩ : ∃ F, (BL.take j).foldl (addF en M) out = F := ⟨_, rfl⟩
        rw [hF] at q1 q2 x1
        have hFs : (BL.take (j + 1)).foldl (addF en M) out = addF en M F y := by
          rw [htk, List.foldl_append, hF]
          rfl
        have hFl : F.length ≤ O + cnt := by
          have h1 := foldF_len en M (BL.take j) out
          rw [hF, List.length_take] at h1
          omega
        have hF63 : F.length + 1 ≤ 2097153 := by omega
        obtain ⟨fl, hfl⟩ : ∃ fl, F.length = fl := ⟨_, rfl⟩
        have HCP := Lib.hid (fun W => Compare_calls y en W)
        have HPush := Lib.hid (fun A hA g' cap' w2 ho hg => hcr.push (A := A) (y := y) (g' := g') (cap' := cap') (w2 := w2) hDW (by omega) q1 q2 hA ho hg)
        have HMid := Lib.hid (fun w3 hb3 => from_mid (y := y) (w3 := w3) q1 q2 hb3)
        obtain ⟨C, hC⟩ : ∃ C, cmpE y en = C := ⟨_, rfl⟩
        have hadd : addF en M F y = if fl < M then (if 0 ≤ C then F ++ [y] else F) else F := by
          unfold addF
          rw [hfl, hC]
        rw [hadd] at hFs
        clear hadd
        rw [hC] at HCP
        unfold Ent.val at HCP
        have HR : Hid (∀ W2, Below wr.heap.size wr W2 → (BL.take (j + 1)).foldl (addF en M) out = F → Cr D (w.heap.size + 1 + 1) W W2 ∧ ∃ v', W2.heap[w.heap.size + 1 + 1]? = some (.cells #[v'] 24 (0, 0)) ∧ W2.ownsRow D 33 5 v' ((BL.take (j + 1)).foldl (addF en M) out).length (encE ((BL.take (j + 1)).foldl (addF en M) out))) := Lib.hid (fun W2 hW2 hF2 => by
          rw [hF2]
          exact ⟨hcr.trans (Cr.below (Nat.le_trans hDW hcr.size) hW2), _, (hW2.block _ (Array.getElem?_eq_some_iff.1 q1).1).trans q1, own_belowAll q2 hW2⟩)
        have HFs := Lib.hid hFs
        by_cases hful : fl < M
        · have hfi : (fl : Int) < (M : Int) := by omega
          rw [if_pos hful] at hFs
          by_cases hge : 0 ≤ C
          · rw [if_pos hge] at hFs
            have HF2 := Lib.hid hFs
            clear hFs hC htk hF hcr hy hly hgb y0 y1 y2 y3 y4 q1 q2 hwv
            rw [hfl] at HPush HMid hF63 x1
            gi_wp2_with (first
              | (refine ⟨trivial, ?_⟩; gi_at_call 33; refine (CallsIn.inRound L (callsIn_wide.2 (HCP.out _))).mono ?_; rintro e w3 ⟨rfl, hb3⟩; obtain ⟨x3, t0, t1, t2, t3, t4, q3, hnews, hAl, _, hsz3⟩ := HMid.out _ hb3)
              | (gi_at_builtin; refine wpListIn_append_own _ rfl _ _ 24 rfl D 33 i0 (.agg #[.int .i64 0, .string ⟨#[]⟩, .int .i64 0, .int .i64 0, .bool false]) 5 48 Tryd.underlying24 hi hz0 hz1 hz2 rfl (by decide) (.slice q' fl c') fl _ rfl q3.out ⟨w3.heap.size, 0, none⟩ 1 1 [.int .i64 y.v, .string y.c, .int .i64 y.i, .int .i64 y.s, .bool y.d] rfl rfl hnews.out (by simp [Value.oneCell']) (by unfold maxLen; omega) (by omega) (by rw [World.size_alloc]; have := hsz3.out; omega) ?_; intro v2 w2 hown2 hgrow2 _; obtain ⟨g', cap', rfl⟩ := ownsRow_succ hown2; obtain ⟨u1, u2, u3⟩ := HPush.out _ hAl.out g' cap' w2 hown2 hgrow2))
            go_roundw
            case rel => exact ⟨j + 1, by go_num, hlt, by have := u3.out; rw [HF2.out]; exact this⟩
            case measure => simp [intOf]; omega
          · rw [if_neg hge] at hFs
            clear hC htk hF hcr hy hly hgb y0 y1 y2 y3 y4 q1 q2 hwv
            rw [hfl] at HMid hF63 x1
            gi_wp2_with (first
              | (refine ⟨trivial, ?_⟩; gi_at_call 33; refine (CallsIn.inRound L (callsIn_wide.2 (HCP.out _))).mono ?_; rintro e w3 ⟨rfl, hb3⟩; obtain ⟨x3, t0, t1, t2, t3, t4, q3, hnews, hAl, hb4, hsz3⟩ := HMid.out _ hb3))
            go_roundw
            case rel => exact ⟨j + 1, by go_num, hlt, HR.out _ hb4.out hFs⟩
            case measure => simp [intOf]; omega
        · have hfi : ¬ ((fl : Int) < (M : Int)) := by omega
          rw [if_neg hful] at hFs
          have hA := (Below.refl wr.heap.size wr).alloc (Nat.le_refl _) (.cells #[.int .i64 y.v, .string y.c, .int .i64 y.i, .int .i64 y.s, .bool y.d] 33)
          have HR2 := Lib.hid (HR.out _ hA hFs)
          clear hFs hC htk hF hcr hy hly hgb y0 y1 y2 y3 y4 hA q1 q2 hwv
          rw [hfl] at hF63 x1
          gi_wp2
          refine ⟨trivial, ?_⟩
          gi_wp2
          go_roundw
          case rel => exact ⟨j + 1, by go_num, hlt, HR2.out⟩
          case measure => simp [intOf]; omega
      · obtain rfl : j = cnt := by omega
        rw [List.take_of_length_le (by omega)] at q1 q2 x1
        have hNi : N - i = (N - (i + 1)) + 1 := by omega
        have hfr : fromR l ls en M (N - i) i out (r0 + (i - f)) = if (BL.foldl (addF en M) out).length = M then (BL.foldl (addF en M) out, r0 + (i - f) + 1) else fromR l ls en M (N - (i + 1)) (i + 1) (BL.foldl (addF en M) out) (r0 + (i - f) + 1) := by
          rw [hNi]
          show (if ((blkL l ls i).foldl (addF en M) out).length = M then ((blkL l ls i).foldl (addF en M) out, _) else _) = _
          rw [HBl.out]
        rw [HP3.out] at hfr
        obtain ⟨F, hF⟩ : ∃ F, BL.foldl (addF en M) out = F := ⟨_, rfl⟩
        rw [hF] at hfr q1 q2 x1
        have hlen : F.length ≤ offL ls (i + 1) := by
          have h1 := foldF_len en M BL out
          rw [hF] at h1
          omega
        have hleM : F.length ≤ M := by
          rw [← hF]
          exact foldF_leM en M BL out (by omega)
        have HCR : Hid (∀ W' Req', Cr D (w.heap.size + 1 + 1) wr W' → W'.heap = wr.heap → Req' F → KeepsFrom D W W' ∧ FiI w D fb b6 b2 b7 f w.heap.size (w.heap.size + 1 + 1) #[.int .i64 en.v, .string en.c, .int .i64 en.i, .int .i64 en.s, .bool en.d] 33 h l (some ⟨g, 0, none⟩) lc q c N i (r0 + (i - f) + 1) Req' W' ∧ W'.heap[w.heap.size + 1]? = some (.cells #[.int .i64 (M : Int)] 3 (0, 0))) := Lib.hid (fun W' Req' hc hh hq => by
          have h1 := (hcr.trans hc).low (w.heap.size + 1) (by omega) (by omega)
          have h2 : W'.heap[w.heap.size + 1 + 1]? = some (.cells #[.slice q' F.length c'] 24 (0, 0)) := by rw [hh]; exact q1
          have h3 : W'.ownsRow D 33 5 (.slice q' F.length c') F.length (encE F) := ⟨q2.1, by rw [hh]; exact q2.2⟩
          exact ⟨(hcr.trans hc).keeps, HI.out.cr (hcr.trans hc) (by omega) (by omega) (by omega) (by omega) ⟨_, _, h2, h3, hq⟩, h1.trans HMB.out⟩)
        have hfl : ¬ ((j : Int) < (j : Int)) := by omega
        obtain ⟨fl, hfl⟩ : ∃ fl, F.length = fl := ⟨_, rfl⟩
        by_cases hgt : F.length = M
        · rw [if_pos hgt] at hfr
          have HX2 : KeepsFrom D W wr ∧ Ix i wr := HCR.out wr (fun out => R = (out, r0 + (i - f) + 1)) (Cr.refl _ _ _) rfl hfr
          have hq1 : ((fl : Int) == (M : Int)) = true := by simp; omega
          clear hfr hlen hcr q1 q2 hgt hleM hF
          rw [hfl] at x1
          clear hfl
          gi_wp2
          exact ⟨rfl, HX2⟩
        · rw [if_neg hgt] at hfr
          have HX2 : KeepsFrom D W wr ∧ I2 i wr := HCR.out wr (Q0 (i + 1) (r0 + (i - f) + 1)) (Cr.refl _ _ _) rfl ⟨hfr.symm, hlen, by omega⟩
          have hq1 : ((fl : Int) == (M : Int)) = false := by simp; omega
          clear hfr hlen hcr q1 q2 hgt hleM hF
          rw [hfl] at x1
          clear hfl
          gi_wp2
          exact HX2
  case done =>
    intro D2 i W hD2 hi hI hK
    obtain ⟨hI, hIm⟩ := hI
    have hI' := hI.own (W' := W.putObj D2 (.deferred none)) (by omega) (grownBy_putObj' W D2 _) (fun k e => by cases e; exact ⟨by omega, _, hK, rfl⟩)
    obtain ⟨out, v, o2, o3, o4, _, _⟩ := hI'.out
    obtain ⟨out', v', p2, p3, p4⟩ := hI.out
    have hvv : v' = v := by
      have hne : w.heap.size + 1 + 1 ≠ D2 := by omega
      have h1 := World.putObj_heap_other (w := W) (o := .deferred none) hne
      rw [h1, p2] at o2
      have h2 := Option.some.inj o2
      injection h2 with h3 _
      simpa using h3
    subst hvv
    obtain ⟨x1, _⟩ := arr_cell p2 (k := 0) rfl
    have hRo : R = (out, r0 + (i - f)) := by
      rw [← o4, show N - i = 0 by omega]
      rfl
    have hE := Lib.hid (HEnd.out out _ v' _ hRo (own_le o3 (by omega)) (hrw.file hI'.gr (by rw [HLS.out, hN]; exact hI'.own8)) hI'.gr)
    clear hI hI' o2 o3 o4 p2 p3 p4 hRo
    go_wp2
    refine ⟨by simp, .inl ⟨_, _, rfl, run_takeDeferred hK, ?_⟩⟩
    refine ⟨v', ?_, hE.out⟩
    exact results_tmp (show Tryd.f23.results = #[.tmp 6] from rfl) _ _ _
  case stop =>
    intro D2 i W hD2 hi hI hK
    obtain ⟨hI, hIm⟩ := hI
    have hI' := hI.own (W' := W.putObj D2 (.deferred none)) (by omega) (grownBy_putObj' W D2 _) (fun k e => by cases e; exact ⟨by omega, _, hK, rfl⟩)
    obtain ⟨out, v, o2, o3, o4⟩ := hI'.out
    obtain ⟨out', v', p2, p3, p4⟩ := hI.out
    have hvv : v' = v := by
      have hne : w.heap.size + 1 + 1 ≠ D2 := by omega
      have h1 := World.putObj_heap_other (w := W) (o := .deferred none) hne
      rw [h1, p2] at o2
      have h2 := Option.some.inj o2
      injection h2 with h3 _
      simpa using h3
    subst hvv
    obtain ⟨x1, _⟩ := arr_cell p2 (k := 0) rfl
    have hE := Lib.hid (HEnd.out out _ v' _ o4 (own_le o3 (by omega)) (hrw.file hI'.gr (by rw [HLS.out, hN]; exact hI'.own8)) hI'.gr)
    clear hI hI' o2 o3 o4 p2 p3 p4
    refine wpIn_wide.2 ?_
    go_wp2
    refine ⟨by simp, .inl ⟨_, _, rfl, run_takeDeferred hK, ?_⟩⟩
    refine ⟨v', ?_, hE.out⟩
    exact results_tmp (show Tryd.f23.results = #[.tmp 6] from rfl) _ _ _
end Go.Proofs.YtihgjihdmlomaaaDoor

/-
  WALK: the entries of a value (Find).
-/
import Derived.Test.YtihgjihdmlomaaaDoorJK
import Derived.Maps.AppendAt
import Derived.OwnWalkIn
namespace Go.Proofs.YtihgjihdmlomaaaDoor
open Go.RowKit ArgK Go.Shelf
set_option linter.unusedVariables false
attribute [local go_sem] Oper.semAt_some

theorem Cr.drew {D ob : Nat} (W : World) : Cr D ob W W.drew := ⟨rfl, rfl, rfl, Nat.le_refl _, fun _ _ _ => rfl, ⟨Nat.le_refl _, fun _ _ _ h _ => h⟩⟩

/-- What was appended to the loop's own box is written back into it. -/
theorem Cr.push {D ob : Nat} {W wr A : World} {y : Ent} {F : List Ent} {v' : Value} (hcr : Cr D ob W wr) (hD : D ≤ W.heap.size) (hob : ob < D) (q1 : wr.heap[ob]? = some (.cells #[v'] 24 (0, 0))) (q2 : wr.ownsRow D 33 5 v' F.length (encE F)) (hA : Below wr.heap.size wr A)
    {g' cap' : Nat} {w2 : World} (ho : w2.ownsRow D 33 5 (.slice (some ⟨g', 0, none⟩) (F.length + 1) cap') (F.length + 1) (encE F ++ y.cells)) (hg : A.grownBy w2 v'.ownBlock) :
    w2.cell? ⟨ob, 0, none⟩ = some v' ∧ w2.frozen? ⟨ob, 0, none⟩ = false ∧
      Hid (Cr D ob W (w2.setCell ⟨ob, 0, none⟩ (.slice (some ⟨g', 0, none⟩) (F.length + 1) cap')) ∧ ∃ v3, (w2.setCell ⟨ob, 0, none⟩ (.slice (some ⟨g', 0, none⟩) (F.length + 1) cap')).heap[ob]? = some (.cells #[v3] 24 (0, 0)) ∧
        (w2.setCell ⟨ob, 0, none⟩ (.slice (some ⟨g', 0, none⟩) (F.length + 1) cap')).ownsRow D 33 5 v3 (F ++ [y]).length (encE (F ++ [y]))) := by
  have hws := hcr.size
  have hsz := hA.size
  have hob' := (Array.getElem?_eq_some_iff.1 q1).1
  have h1 : A.heap[ob]? = some (.cells #[v'] 24 (0, 0)) := (hA.block _ hob').trans q1
  have hca : Cr D ob W A := hcr.trans (Cr.below (by omega) hA)
  have hoA := own_belowAll q2 hA
  have h2 : w2.heap[ob]? = some (.cells #[v'] 24 (0, 0)) := (hg.block _ (by omega) (fun e => by have := (hoA.lt ob e.symm).1; omega)).trans h1
  obtain ⟨x1, x2⟩ := arr_cell h2 (k := 0) rfl
  refine ⟨x1, x2, Lib.hid ⟨(hca.trans (Cr.app (by omega) hoA hg)).trans (Cr.setO _ hob _ _), .slice (some ⟨g', 0, none⟩) (F.length + 1) cap', arr_set h2 (k := 0) _, ?_⟩⟩
  have hl : (F ++ [y]).length = F.length + 1 := by simp
  rw [hl, encE_snoc]
  exact own_setCell ho (p := ⟨ob, 0, none⟩) (own_type_ne ho h2 (by decide)) _

set_option maxRecDepth 100000 in
set_option maxHeartbeats 4000000 in
theorem Find_calls (base fb : Nat) (h : Hd) (l : List Ent) (r0 : Nat) (value : Int) (w : World) (hF : FileAt w base fb h l r0) (hn : (linesB h l).length ≤ 2097152) (hsum : ((linesB h l).map Ln.count).sum = l.length) (hl2 : l.length ≤ 2097152) (hcp : ∀ x ∈ linesB h l, 0 < x.count) (hr0 : r0 ≤ 4611686018427387904)
    (hmono : ∀ i j, i ≤ j → j < (linesB h l).length → behindI ⟨value, ⟨#[]⟩, -1, 0, false⟩ (linesB h l) i = true → behindI ⟨value, ⟨#[]⟩, -1, 0, false⟩ (linesB h l) j = true) :
    Calls Tryd.prog 21 #[.pointer (some ⟨fb, 0, none⟩), .int .i64 value] w fun e w' =>
      ∃ s v, Parted (behindI ⟨value, ⟨#[]⟩, -1, 0, false⟩ (linesB h l)) (linesB h l).length s ∧ e = .returned v ∧
        w'.ownsRow w.heap.size 33 5 v (findR l (linesB h l) value ((linesB h l).length - (s - 1)) (s - 1) [] r0).1.length (encE (findR l (linesB h l) value ((linesB h l).length - (s - 1)) (s - 1) [] r0).1) ∧
        FileAt w' base fb h l ((findR l (linesB h l) value ((linesB h l).length - (s - 1)) (s - 1) [] r0).2 : Nat) ∧ w.grownBy w' (some fb) := by
  have hb2 : Below w.heap.size w ((w.alloc (.cells #[.int .i64 value] 3)).alloc (.cells #[.slice none 0 0] 24)) := ((Below.refl _ w).alloc (Nat.le_refl _) _).alloc (by simp) _
  have CB := fblocks_calls base fb h l r0 ⟨value, ⟨#[]⟩, -1, 0, false⟩ _ (hF.below hb2) hn (by omega) hmono
  have hbu : ∀ W : World, (Instr.build 33 #[(0, .int .i64 value), (2, .int .i64 (-1))]).run Tryd.prog W = .ok (.agg #[.int .i64 value, .string ⟨#[]⟩, .int .i64 (-1), .int .i64 0, .bool false]) W := fun W => run_build W _ _ _ (by kernel_rfl)
  unfold Ent.val at CB
  obtain ⟨i0, hi, hz0, hz1, hz2⟩ := info_parts entinfo6
  have HCB := Lib.hid CB
  have HF := Lib.hid hF
  have h1 := World.alloc_heap_new w (.cells #[.int .i64 value] 3)
  have h2 := World.alloc_heap_new (w.alloc (.cells #[.int .i64 value] 3)) (.cells #[.slice none 0 0] 24)
  rw [World.size_alloc] at h2
  have h1' := (Below.heap_alloc (w.alloc (.cells #[.int .i64 value] 3)) (.cells #[.slice none 0 0] 24) w.heap.size (by simp)).trans h1
  have H1 := Lib.hid h1'
  have H2 := Lib.hid h2
  have HB2 := Lib.hid hb2
  clear CB hF h1 h2 h1' hb2
  refine (callsIn_wide (n := 5)).1 ?_
  refine callsIn_of_wp_marks Tryd.func21 rfl trivial ?_ rfl
  refine wpIn_wide.2 ?_
  simp only [Tryd.ntmps21, List.size_toArray, List.length_cons, List.length_nil, Nat.reduceAdd, Nat.reduceSub, Array.replicate_succ, Array.replicate_zero, List.push_toArray, List.append_toArray, List.nil_append, List.cons_append]
  go_wp2_with fail
  refine HCB.out.mono ?_
  rintro e w1 ⟨b6, b2, b7, s, rfl, hpt, k6, k2, k7, l6, l2, l7, n67, n27, n26, hb1⟩
  go_wp2_with fail
  have hsz : ((w.alloc (.cells #[.int .i64 value] 3)).alloc (.cells #[.slice none 0 0] 24)).heap.size = w.heap.size + 1 + 1 := by simp
  rw [hsz] at l6 l2 l7
  have hs1 := hb1.size
  rw [hsz] at hs1
  have hbl1 : Below w.heap.size w w1 := HB2.out.trans (hb1.mono (by rw [hsz]; omega))
  have v1 : w1.heap[w.heap.size]? = some (.cells #[.int .i64 value] 3 (0, 0)) := (hb1.block _ (by rw [hsz]; omega)).trans H1.out
  have o1 : w1.heap[w.heap.size + 1]? = some (.cells #[.slice none 0 0] 24 (0, 0)) := (hb1.block _ (by rw [hsz]; omega)).trans H2.out
  obtain ⟨lp, lc, q, c, hf, hrw⟩ := HF.out.rows
  have hown := hrw.own
  have hfw := (Array.getElem?_eq_some_iff.1 hf).1
  have hf1 := (hbl1.block fb hfw).trans hf
  have hlc : l.length ≤ lc := own_cap hown
  obtain ⟨ls, hls⟩ : ∃ ls, linesB h l = ls := ⟨_, rfl⟩
  obtain ⟨N, hN⟩ : ∃ N, ls.length = N := ⟨_, rfl⟩
  rw [hls] at hn hsum hcp hmono hpt k7 hf1
  rw [hN] at hn hmono hpt hf1
  obtain ⟨f, hfs⟩ : ∃ f, s - 1 = f := ⟨_, rfl⟩
  rw [hfs] at k6 k7
  obtain ⟨R, hR⟩ : ∃ R, findR l ls value (N - f) f [] r0 = R := ⟨_, rfl⟩
  obtain ⟨g, hlp⟩ : ∃ g, 0 < N → lp = some ⟨g, 0, none⟩ := by
    obtain ⟨q', c', e', _, _, hq⟩ := own_rd hown
    simp only [Value.slice.injEq] at e'
    obtain ⟨rfl, _, rfl⟩ := e'
    by_cases h0 : 0 < l.length
    · obtain ⟨g, rfl, _⟩ := hq h0
      exact ⟨g, fun _ => rfl⟩
    · refine ⟨0, fun hN0 => absurd hsum ?_⟩
      obtain ⟨x, hx⟩ : ∃ x, ls[0]? = some x := ⟨_, List.getElem?_eq_getElem (by omega)⟩
      have h1 := offL_succ hx
      have h2 := offL_le ls (0 + 1)
      have h3 := hcp x (List.mem_of_getElem? hx)
      omega
  obtain ⟨D, hD⟩ : ∃ D, w1.heap.size = D := ⟨_, rfl⟩
  have hDw : w.heap.size + 1 + 1 ≤ D := by omega
  have hn6 := (Array.getElem?_eq_some_iff.1 k6).1
  have hn2 := (Array.getElem?_eq_some_iff.1 k2).1
  have hn7 := (Array.getElem?_eq_some_iff.1 k7).1
  have hne8 : fb ≠ w.heap.size ∧ fb ≠ w.heap.size + 1 ∧ fb ≠ b6 ∧ fb ≠ b2 ∧ fb ≠ b7 := by omega
  have hne7 : b7 ≠ w.heap.size ∧ b7 ≠ w.heap.size + 1 ∧ b7 ≠ b6 ∧ b7 ≠ b2 ∧ b7 ≠ fb := by omega
  have hst : ∀ i, f ≤ i → r0 + (i + 1 - f) = r0 + (i - f) + 1 := fun i hi => by omega
  let Q0 : Nat → Nat → List Ent → Prop := fun i r out => findR l ls value (N - i) i out r = R ∧ out.length ≤ offL ls i
  let I : Nat → World → Prop := fun i W => FiI w D fb b6 b2 b7 f w.heap.size (w.heap.size + 1) #[.int .i64 value] 3 h l lp lc q c N i (r0 + (i - f)) (Q0 i (r0 + (i - f))) W
  let I1 : Nat → World → Prop := fun i W => FiI w D fb b6 b2 b7 f w.heap.size (w.heap.size + 1) #[.int .i64 value] 3 h l lp lc q c N i (r0 + (i - f) + 1) (Q0 i (r0 + (i - f))) W
  let I2 : Nat → World → Prop := fun i W => FiI w D fb b6 b2 b7 f w.heap.size (w.heap.size + 1) #[.int .i64 value] 3 h l lp lc q c N i (r0 + (i - f) + 1) (Q0 (i + 1) (r0 + (i - f) + 1)) W
  let Ix : Nat → World → Prop := fun i W => FiI w D fb b6 b2 b7 f w.heap.size (w.heap.size + 1) #[.int .i64 value] 3 h l lp lc q c N i (r0 + (i - f) + 1) (fun out => R = (out, r0 + (i - f) + 1)) W
  have hB : Bears base fb b6 b2 b7 f h l lp lc r0 N I I1 I2 :=
    { it := fun i W hI => ⟨hI.lo, ⟨hI.k6, hI.k2, hI.k7, hrw.file hI.gr (by rw [hls, hN]; exact hI.own8)⟩, q, c, hI.own8⟩
      s1 := fun i W n hI hi => (hI.set8 hne8).drewN n
      it1 := fun i W hI => ⟨hI.lo, ⟨hI.k6, hI.k2, hI.k7, hrw.file hI.gr (by rw [hls, hN]; exact hI.own8)⟩, q, c, hI.own8⟩
      d1 := fun i W n hI => hI.drewN n
      it2 := fun i W hI => ⟨_, hI.k7⟩
      s2 := fun i W hI hi => by
        show FiI _ _ _ _ _ _ _ _ _ _ _ _ _ _ _ _ _ _ _ _ _ _
        rw [hst i hI.lo]
        exact hI.set7 hne7 (by omega) }
  have hI0 : I f w1 := by
    refine ⟨Nat.le_refl _, v1, k6, k2, by rw [hls]; exact k7, ?_, ⟨hbl1.os, hbl1.tape, hbl1.output, hbl1.size, fun k hk _ => hbl1.block k hk⟩, by omega, [], .slice none 0 0, o1, World.ownsRow_nil _ _ _ _, ?_, Nat.zero_le _⟩
    · rw [Nat.sub_self, Nat.add_zero]; exact hf1
    · rw [Nat.sub_self, Nat.add_zero]; exact hR
  have hfb1 : fb < w1.heap.size := by omega
  have HEnd : Hid (∀ (out : List Ent) (rr : Nat) (v : Value) (W : World), R = (out, rr) → W.ownsRow w.heap.size 33 5 v out.length (encE out) → FileAt W base fb h l (rr : Nat) → w.grownBy W (some fb) → ∃ s v', Parted (behindI ⟨value, ⟨#[]⟩, -1, 0, false⟩ (linesB h l)) (linesB h l).length s ∧ Ending.returned v = Ending.returned v' ∧
        W.ownsRow w.heap.size 33 5 v' (findR l (linesB h l) value ((linesB h l).length - (s - 1)) (s - 1) [] r0).1.length (encE (findR l (linesB h l) value ((linesB h l).length - (s - 1)) (s - 1) [] r0).1) ∧
        FileAt W base fb h l ((findR l (linesB h l) value ((linesB h l).length - (s - 1)) (s - 1) [] r0).2 : Nat) ∧ w.grownBy W (some fb)) := Lib.hid (fun out rr v W e1 e2 e3 e4 => by
    refine ⟨s, v, ?_, rfl, ?_, ?_, e4⟩
    · rw [hls, hN]; exact hpt
    · rw [hls, hN, hfs, hR, e1]; exact e2
    · rw [hls, hN, hfs, hR, e1]; exact e3)
  have HR := Lib.hid hR
  have HLS := Lib.hid hls
  have HB := Lib.hid hB
  refine range_law base fb b6 b2 b7 f h l lp g lc r0 N hlp (by rw [hls]; exact hN) hn (by rw [hls]; exact hsum) hl2 hlc (by rw [hls]; exact hcp) hr0 rfl I I1 I2 Ix 0 hB
    (fun i A B row hs hg hr => hs.own (by omega) hg (by rw [← hD]; exact hr)) (fun i A B row hs hg hr => hs.own (by omega) hg (by rw [← hD]; exact hr)) (fun i A B row hs hg hr => hs.own (by omega) hg (by rw [← hD]; exact hr)) (fun i A B row hs hg hr => hs.own (by omega) hg (by rw [← hD]; exact hr))
    hfb1 hn7 hI0 (fun x => { tmps := (#[.pointer (some ⟨fb, 0, none⟩), .int .i64 value, undef, .pointer (some ⟨w.heap.size, 0, none⟩), .slice none 0 0, .pointer (some ⟨w.heap.size + 1, 0, none⟩), x, undef, undef, .pointer (some ⟨fb, 0, none⟩), .int .i64 value, .agg #[.int .i64 value, .string ⟨#[]⟩, .int .i64 (-1), .int .i64 0, .bool false], .func (.func 77) #[] #[.pointer (some ⟨b6, 0, none⟩), .pointer (some ⟨b2, 0, none⟩), .pointer (some ⟨b7, 0, none⟩)], x, undef, undef, undef, undef, undef, undef, undef, undef, undef, undef, undef, undef, undef, undef, undef, undef, undef, undef, undef, undef, undef, undef, undef, undef, undef] : Array Value), defers := [] }) ?assign ?body ?done ?stop
  case assign =>
    intro L x W K hK
    gi_wp2
    exact hK
  case body =>
    intro L i W hI1 hiN
    obtain ⟨x, hx⟩ : ∃ x, ls[i]? = some x := ⟨_, List.getElem?_eq_getElem (by omega)⟩
    have hxc := hcp x (List.mem_of_getElem? hx)
    have hos := offL_succ hx
    have hol := offL_le ls (i + 1)
    obtain rfl := hlp (by omega)
    have hownW := own_grown hrw.own hI1.gr (fun k hk e => hrw.ne1 (by rw [hk, e]))
    have hgw : g < w.heap.size := (hrw.own.lt g rfl).2
    obtain ⟨out, v, p1, p2, p3, p4⟩ := hI1.out
    obtain ⟨BL, hBL⟩ : ∃ BL, blkL l ls i = BL := ⟨_, rfl⟩
    obtain ⟨O, hO⟩ : ∃ O, offL ls i = O := ⟨_, rfl⟩
    obtain ⟨cnt, hcn⟩ : ∃ cnt, x.count = cnt := ⟨_, rfl⟩
    rw [hO, hcn] at hos
    rw [hcn] at hxc
    have hBl : BL = (l.drop O).take cnt := by
      rw [← hBL]
      unfold blkL
      rw [hO, hos, show O + cnt - O = cnt by omega]
    have hBn : BL.length = cnt := by
      rw [hBl, List.length_take, List.length_drop]
      omega
    have hBg : ∀ j y, BL[j]? = some y → l[O + j]? = some y := fun j y hy => by
      have hj := (List.getElem?_eq_some_iff.1 hy).1
      rw [hBl, List.getElem?_take_of_lt (by omega), List.getElem?_drop] at hy
      exact hy
    have hvb := (arr_cell hI1.vb (k := 0) (v := .int .i64 value) rfl).1
    have hDW := hI1.sz
    have hbk : blkV g lc (linesB h l) i = .slice (some ⟨g, O * 5, none⟩) cnt (lc - O) := by
      unfold blkV
      rw [HLS.out, hO, hos, show O + cnt - O = cnt by omega]
    rw [hbk]
    have HI := Lib.hid hI1
    have HOw := Lib.hid hownW
    have HBg := Lib.hid hBg
    have HP3 := Lib.hid p3
    have HBl := Lib.hid hBL
    have hp4 : out.length ≤ O := by rw [← hO]; exact p4
    have H0 : Hid (Cr D (w.heap.size + 1) W W ∧ ∃ v', W.heap[w.heap.size + 1]? = some (.cells #[v'] 24 (0, 0)) ∧ W.ownsRow D 33 5 v' (out ++ (BL.take 0).filter (fun x => decide (x.v = value))).length (encE (out ++ (BL.take 0).filter (fun x => decide (x.v = value))))) := Lib.hid ⟨Cr.refl _ _ _, v, p1, by simpa using p2⟩
    clear hbk hownW hBg p1 p2 p3 p4 hI1 hBl hBL
    gi_wp2
    gi_loopw [16] (fun jv wr => ∃ j : Nat, jv = .int .i64 j ∧ j ≤ cnt ∧ Cr D (w.heap.size + 1) W wr ∧ ∃ v', wr.heap[w.heap.size + 1]? = some (.cells #[v'] 24 (0, 0)) ∧ wr.ownsRow D 33 5 v' (out ++ (BL.take j).filter (fun x => decide (x.v = value))).length (encE (out ++ (BL.take j).filter (fun x => decide (x.v = value))))) (fun jv _ => cnt - (intOf jv).toNat)
    case atStart => exact ⟨0, rfl, Nat.zero_le _, H0.out⟩
    case round =>
      obtain ⟨j, rfl, hj, hcr, v', q1, q2⟩ := hrel
      have hvr := (World.cell?_of_block (a := ⟨w.heap.size, 0, none⟩) (hcr.low w.heap.size (by omega) (by omega))).trans hvb
      have hws : D ≤ wr.heap.size := Nat.le_trans hDW hcr.size
      have hn1 : ¬ (wr.heap.size = w.heap.size) := by omega
      have hn2 : ¬ (w.heap.size = wr.heap.size) := by omega
      have hn3 : ¬ (wr.heap.size = w.heap.size + 1) := by omega
      have hn4 : ¬ (w.heap.size + 1 = wr.heap.size) := by omega
      have hn5 : w.heap.size < wr.heap.size := by omega
      by_cases hlt : j < cnt
      · obtain ⟨y, hy⟩ : ∃ y, BL[j]? = some y := ⟨_, List.getElem?_eq_getElem (by omega)⟩
        have hly := HBg.out j y hy
        obtain ⟨y0, y1, y2, y3, y4⟩ := own_fiveE HOw.out hly
        have hgb := hcr.low g (by omega) (by omega)
        rw [show (O + j) * 5 = O * 5 + j * 5 by omega] at y0 y1 y2 y3 y4
        have z0 := (World.cell?_of_block (a := ⟨g, O * 5 + j * 5, none⟩) hgb).trans y0
        have z1 := (World.cell?_of_block (a := ⟨g, O * 5 + j * 5 + 1, none⟩) hgb).trans y1
        have z2 := (World.cell?_of_block (a := ⟨g, O * 5 + j * 5 + 2, none⟩) hgb).trans y2
        have z3 := (World.cell?_of_block (a := ⟨g, O * 5 + j * 5 + 3, none⟩) hgb).trans y3
        have z4 := (World.cell?_of_block (a := ⟨g, O * 5 + j * 5 + 4, none⟩) hgb).trans y4
        have htk : BL.take (j + 1) = BL.take j ++ [y] := by rw [List.take_add_one, hy]; rfl
        have i0' : (0 : Int) ≤ (j : Int) := by omega
        have i1' : (j : Int) < (cnt : Int) := by omega
        obtain ⟨F, hF⟩ : ∃ F, out ++ (BL.take j).filter (fun x => decide (x.v = value)) = F := ⟨_, rfl⟩
        rw [hF] at q2
        have hFl : F.length ≤ O + cnt := by
          have h1 := List.length_filter_le (fun x : Ent => decide (x.v = value)) (BL.take j)
          rw [List.length_take] at h1
          rw [← hF, List.length_append]
          omega
        by_cases hyv : y.v = value
        · have heq : (y.v == value) = true := by simpa using hyv
          have hF2 : out ++ (BL.take (j + 1)).filter (fun x => decide (x.v = value)) = F ++ [y] := by
            rw [htk, List.filter_append, ← List.append_assoc, hF]
            simp [hyv]
          have hF63 : F.length + 1 ≤ 2097153 := by omega
          have q3 := Lib.hid ((q2.alloc (.cells #[.int .i64 y.v, .string y.c, .int .i64 y.i, .int .i64 y.s, .bool y.d] 33)).alloc (.cells #[.int .i64 y.v, .string y.c, .int .i64 y.i, .int .i64 y.s, .bool y.d] 33))
          have x1 := (arr_cell q1 (k := 0) (v := v') rfl).1
          have HPush := Lib.hid (fun A hA g' cap' w2 ho hg => hcr.push (A := A) (y := y) (g' := g') (cap' := cap') (w2 := w2) hDW (by omega) q1 q2 hA ho hg)
          have hx1 : w.heap.size + 1 < wr.heap.size := by omega
          have hX := World.alloc_heap_new (wr.alloc (.cells #[.int .i64 y.v, .string y.c, .int .i64 y.i, .int .i64 y.s, .bool y.d] 33)) (.cells #[.int .i64 y.v, .string y.c, .int .i64 y.i, .int .i64 y.s, .bool y.d] 33)
          rw [World.size_alloc] at hX
          have hnews := Lib.hid (World.news_of_block hX)
          have hAl := Lib.hid (((Below.refl wr.heap.size wr).alloc (Nat.le_refl _) (.cells #[.int .i64 y.v, .string y.c, .int .i64 y.i, .int .i64 y.s, .bool y.d] 33)).alloc (by simp) (.cells #[.int .i64 y.v, .string y.c, .int .i64 y.i, .int .i64 y.s, .bool y.d] 33))
          have HF2 := Lib.hid hF2
          clear hF2 hyv hX htk hF q1 q2 hcr hy hly hgb y0 y1 y2 y3 y4
          gi_wp2_with (gi_at_builtin; refine wpListIn_append_own _ rfl _ _ 24 rfl D 33 i0 (.agg #[.int .i64 0, .string ⟨#[]⟩, .int .i64 0, .int .i64 0, .bool false]) 5 48 Tryd.underlying24 hi hz0 hz1 hz2 rfl (by decide) v' F.length _ rfl q3.out ⟨wr.heap.size + 1, 0, none⟩ 1 1 [.int .i64 y.v, .string y.c, .int .i64 y.i, .int .i64 y.s, .bool y.d] rfl rfl hnews.out (by simp [Value.oneCell']) (by unfold maxLen; omega) (by omega) (by rw [World.size_alloc, World.size_alloc]; omega) ?_; intro v2 w2 hown2 hgrow2 _; obtain ⟨g', cap', rfl⟩ := ownsRow_succ hown2; obtain ⟨u1, u2, u3⟩ := HPush.out _ hAl.out g' cap' w2 hown2 hgrow2)
          go_roundw
          case rel => exact ⟨j + 1, by go_num, hlt, by have := u3.out; rw [HF2.out]; exact this⟩
          case measure => simp [intOf]; omega
        · have hne : (y.v == value) = false := by simpa using hyv
          have hF2 : out ++ (BL.take (j + 1)).filter (fun x => decide (x.v = value)) = F := by
            rw [htk, List.filter_append, ← List.append_assoc, hF]
            simp [hyv]
          have HR : Hid (∀ W2, Below wr.heap.size wr W2 → Cr D (w.heap.size + 1) W W2 ∧ ∃ v', W2.heap[w.heap.size + 1]? = some (.cells #[v'] 24 (0, 0)) ∧ W2.ownsRow D 33 5 v' (out ++ (BL.take (j + 1)).filter (fun x => decide (x.v = value))).length (encE (out ++ (BL.take (j + 1)).filter (fun x => decide (x.v = value))))) := Lib.hid (fun W2 hW2 => by
            rw [hF2]
            exact ⟨hcr.trans (Cr.below (Nat.le_trans hDW hcr.size) hW2), v', (hW2.block _ (Array.getElem?_eq_some_iff.1 q1).1).trans q1, own_belowAll q2 hW2⟩)
          have hA := (Below.refl wr.heap.size wr).alloc (Nat.le_refl _) (.cells #[.int .i64 y.v, .string y.c, .int .i64 y.i, .int .i64 y.s, .bool y.d] 33)
          have HR2 := Lib.hid (HR.out _ hA)
          clear hF2 htk hF q1 q2 hcr hy hly hgb y0 y1 y2 y3 y4 hA
          gi_wp2
          go_roundw
          case rel => exact ⟨j + 1, by go_num, hlt, HR2.out⟩
          case measure => simp [intOf]; omega
      · obtain rfl : j = cnt := by omega
        obtain ⟨J, hJ⟩ : ∃ J, j - 1 = J := ⟨_, rfl⟩
        obtain ⟨y, hy⟩ : ∃ y, BL[J]? = some y := ⟨_, List.getElem?_eq_getElem (by omega)⟩
        have hly := HBg.out _ y hy
        obtain ⟨y0, y1, y2, y3, y4⟩ := own_fiveE HOw.out hly
        have hgb := hcr.low g (by omega) (by omega)
        rw [show (O + J) * 5 = O * 5 + J * 5 by omega] at y0 y1 y2 y3 y4
        have z0 := (World.cell?_of_block (a := ⟨g, O * 5 + J * 5, none⟩) hgb).trans y0
        rw [List.take_of_length_le (by omega)] at q2
        have hlast : lastB BL value = decide (value < y.v) := by
          unfold lastB
          rw [List.getLast?_eq_getElem?, hBn, hJ, hy]
        have hNi : N - i = (N - (i + 1)) + 1 := by omega
        have hfr : findR l ls value (N - i) i out (r0 + (i - f)) = if decide (value < y.v) then (out ++ BL.filter (fun x => decide (x.v = value)), r0 + (i - f) + 1) else findR l ls value (N - (i + 1)) (i + 1) (out ++ BL.filter (fun x => decide (x.v = value))) (r0 + (i - f) + 1) := by
          rw [hNi]
          show (if lastB (blkL l ls i) value then _ else _) = _
          rw [HBl.out, hlast]
        rw [HP3.out] at hfr
        have hlen : (out ++ BL.filter (fun x => decide (x.v = value))).length ≤ offL ls (i + 1) := by
          have h1 := List.length_filter_le (fun x : Ent => decide (x.v = value)) BL
          rw [List.length_append]
          omega
        have HCR : Hid (∀ W' Req', Cr D (w.heap.size + 1) wr W' → W'.heap = wr.heap → Req' (out ++ BL.filter (fun x => decide (x.v = value))) → KeepsFrom D W W' ∧ FiI w D fb b6 b2 b7 f w.heap.size (w.heap.size + 1) #[.int .i64 value] 3 h l (some ⟨g, 0, none⟩) lc q c N i (r0 + (i - f) + 1) Req' W') := Lib.hid (fun W' Req' hc hh hq => by
          refine ⟨(hcr.trans hc).keeps, HI.out.cr (hcr.trans hc) (by omega) (by omega) (by omega) (by omega) ⟨_, v', ?_, ?_, hq⟩⟩
          · rw [hh]; exact q1
          · exact ⟨q2.1, by rw [hh]; exact q2.2⟩)
        have hfl : ¬ ((j : Int) < (j : Int)) := by omega
        have hmx : Tryd.prog.follows .mixedOrders = true := by kernel_rfl
        have hj1 : (j : Int) - 1 = (J : Int) := by omega
        have hjw : IntKind.i64.wrap (J : Int) = (J : Int) := by rw [IntKind.wrap_i64]; omega
        have hj2 : (0 : Int) ≤ (J : Int) := by omega
        have hj3 : (J : Int) < (j : Int) := by omega
        have HFR := Lib.hid hfr
        by_cases hgt : value < y.v
        · rw [if_pos (by simpa using hgt)] at hfr
          have HX : Hid (∀ W', Cr D (w.heap.size + 1) wr W' → W'.heap = wr.heap → KeepsFrom D W W' ∧ Ix i W') := Lib.hid (fun W' hc hh => HCR.out W' _ hc hh hfr)
          clear hfr hlen hlast hly hgb y0 y1 y2 y3 y4 hcr q1 q2 hy hJ
          gi_wp2
          gi_region_with_o (fail)
          all_goals
            have HX2 := HX.out wr.drew (Cr.drew _) rfl
            clear HX HCR HFR HP3 HBl HBg HOw HI
            gi_wp2
            rw [hD]
            exact ⟨rfl, HX2⟩
        · rw [if_neg (by simpa using hgt)] at hfr
          have HX : Hid (∀ W', Cr D (w.heap.size + 1) wr W' → W'.heap = wr.heap → KeepsFrom D W W' ∧ I2 i W') := Lib.hid (fun W' hc hh => HCR.out W' _ hc hh ⟨hfr.symm, hlen⟩)
          clear hfr hlen hlast hly hgb y0 y1 y2 y3 y4 hcr q1 q2 hy hJ
          gi_wp2
          gi_region_with_o (fail)
          all_goals
            have HX2 := HX.out wr.drew (Cr.drew _) rfl
            clear HX HCR HFR HP3 HBl HBg HOw HI
            gi_wp2
            rw [hD]
            exact HX2
  case done =>
    intro D2 i W hD2 hi hI hK
    have hI' := hI.own (W' := W.putObj D2 (.deferred none)) (by omega) (grownBy_putObj' W D2 _) (fun k e => by cases e; exact ⟨by omega, _, hK, rfl⟩)
    obtain ⟨out, v, o2, o3, o4, _⟩ := hI'.out
    obtain ⟨out', v', p2, p3, p4⟩ := hI.out
    have hvv : v' = v := by
      have hne : w.heap.size + 1 ≠ D2 := by omega
      have h1 := World.putObj_heap_other (w := W) (o := .deferred none) hne
      rw [h1, p2] at o2
      have h2 := Option.some.inj o2
      injection h2 with h3 _
      simpa using h3
    subst hvv
    obtain ⟨x1, _⟩ := arr_cell p2 (k := 0) rfl
    have hRo : R = (out, r0 + (i - f)) := by
      rw [← o4, show N - i = 0 by omega]
      rfl
    have hE := Lib.hid (HEnd.out out _ v' _ hRo (own_le o3 (by omega)) (hrw.file hI'.gr (by rw [HLS.out, hN]; exact hI'.own8)) hI'.gr)
    clear hI hI' o2 o3 o4 p2 p3 p4 hRo
    go_wp2
    refine ⟨by simp, .inl ⟨_, _, rfl, run_takeDeferred hK, ?_⟩⟩
    refine ⟨v', ?_, hE.out⟩
    exact results_tmp (show Tryd.f21.results = #[.tmp 4] from rfl) _ _ _
  case stop =>
    intro D2 i W hD2 hi hI hK
    have hI' := hI.own (W' := W.putObj D2 (.deferred none)) (by omega) (grownBy_putObj' W D2 _) (fun k e => by cases e; exact ⟨by omega, _, hK, rfl⟩)
    obtain ⟨out, v, o2, o3, o4⟩ := hI'.out
    obtain ⟨out', v', p2, p3, p4⟩ := hI.out
    have hvv : v' = v := by
      have hne : w.heap.size + 1 ≠ D2 := by omega
      have h1 := World.putObj_heap_other (w := W) (o := .deferred none) hne
      rw [h1, p2] at o2
      have h2 := Option.some.inj o2
      injection h2 with h3 _
      simpa using h3
    subst hvv
    obtain ⟨x1, _⟩ := arr_cell p2 (k := 0) rfl
    have hE := Lib.hid (HEnd.out out _ v' _ o4 (own_le o3 (by omega)) (hrw.file hI'.gr (by rw [HLS.out, hN]; exact hI'.own8)) hI'.gr)
    clear hI hI' o2 o3 o4 p2 p3 p4
    refine wpIn_wide.2 ?_
    go_wp2
    refine ⟨by simp, .inl ⟨_, _, rfl, run_takeDeferred hK, ?_⟩⟩
    refine ⟨v', ?_, hE.out⟩
    exact results_tmp (show Tryd.f21.results = #[.tmp 4] from rfl) _ _ _
end Go.Proofs.YtihgjihdmlomaaaDoor

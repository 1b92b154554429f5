/-
  WALK: Next of a merger.
-/
import Derived.Test.YtahdaccmokjgpaaMrgN
namespace Go.Proofs.Ytahdaccmokjgpaa
open Go.RowKit ArgK
set_option linter.unusedVariables false

set_option maxRecDepth 100000 in
set_option maxHeartbeats 2000000 in
theorem Next_calls {B : Nat} {T : List TypeId} {fs : List Value} {I : World → List Sst → Prop} (hF : FeedLaw B T fs I) {w : World} {mb hb : Nat} {sv : Value} {bottom : Bool} {m : Mst}
    (hA : MerAt w B mb hb sv fs bottom I m) (hn : fs.length ≤ 1024) (hB : B ≤ w.heap.size) :
    Calls Try.prog 32 #[.pointer (some ⟨mb, 0, none⟩)] w (NextPost w B T mb hb sv fs bottom I (m.next bottom)) := by
  obtain ⟨hM, hI, hm, hs, hfr, v, L, hP, hH, hL⟩ := hA
  have hbl := (Below.refl w.heap.size w).alloc (Nat.le_refl _) (eBlk zeroE)
  have hA0 : AskInv w v B T mb hb sv fs bottom m.begun m.bad I m (w.alloc (eBlk zeroE)) := AskInv.below hF (show AskInv w v B T mb hb sv fs bottom m.begun m.bad I m w from ⟨hM, hI, v, L, hP, hH, hL, NK.refl _ _ _ _ _ _⟩) hbl
  have hz0 := World.alloc_heap_new w (eBlk zeroE)
  have hs0 : (w.alloc (eBlk zeroE)).heap.size = w.heap.size + 1 := by simp
  obtain ⟨r, hr⟩ : ∃ r, m.next bottom = r := ⟨_, rfl⟩
  have HStop := Lib.hid (fun (m : Mst) (wr : World) (x : Ent) (b : Bool) (c : Int) (hA : NextAt w v B T mb hb sv fs bottom I m wr) (hr : r = ((x, b, c), m)) (W : World) (k : Fr wr W [some w.heap.size]) => NextAt.stop (W := W) hF hM hP hA hr hB k)
  have hbu : ∀ W : World, (Instr.build 24 #[]).run Try.prog W = .ok (.agg #[.int .i64 0, .string ⟨#[]⟩, .int .i64 0, .int .i64 0, .bool false]) W := fun W => run_build W _ _ _ (by kernel_rfl)
  by_cases hbeg : m.bad = 0 ∧ m.begun = false
  · obtain ⟨hb0, hbe⟩ := hbeg
    have hr2 : Mst.go bottom (m.begin.left + 1) m.begin = r := by rw [← hr]; unfold Mst.next; rw [if_pos ⟨hb0, hbe⟩]
    rw [hr]
    obtain ⟨v1, L1, hN1, hP1, hA1⟩ := hA0.base
    have hM1 := hA0.1
    obtain ⟨_, _, c2, _, c4, _⟩ := hM1.cells
    rw [hb0, hbe] at hA1
    rw [hbe] at c2
    rw [hb0] at c4
    have HCB := Lib.hid (begin_calls hF hA1 hb0 hm (hfr hbe) hn (by omega) (Nat.le_refl _) hM.base)
    have HRel := Lib.hid (fun w2 (h2 : AskInv (w.alloc (eBlk zeroE)) v1 B T mb hb sv fs bottom true 0 I m.begin w2) => (⟨m.begin, NextAt.intro hF hM1 hP1 hz0 hN1 (begin_stat m).2 (begin_ok hm) (hs.of (begin_stat m).1) h2, hr2, fun _ => Nat.lt_succ_self _⟩ : NextRel w v B T mb hb sv fs bottom I r (m.begin.left + 1) (w2.setCell ⟨mb, 4, none⟩ (.int .i64 m.begin.bad))))
    generalize m.begin = m1 at HCB HRel hr2
    clear hM hI hm hs hfr hP hH hL hbl hA0 hz0 hs0 hr hr2 hb0 hbe hN1 hP1 hA1 hM1
    unfold eBlk zeroE at c2 c4
    go_enter Try.func32, Try.ntmps32
    go_wp2_with fail
    refine HCB.out.mono ?_
    rintro e w2 ⟨rfl, h2⟩
    have HR2 := Lib.hid (HRel.out w2 h2)
    obtain ⟨_, _, _, _, d4, df⟩ := h2.1.cells
    have d4f := df 4
    clear h2 c2 c4 df
    go_wp2
    go_loopg [] (m1.left + 1) (fun f wr => NextRel w v B T mb hb sv fs bottom I r f wr)
    case atStart => exact HR2.out
    case round =>
      obtain ⟨mk, hAt, hgo, hlf⟩ := hrel
      obtain ⟨wo, rfl⟩ : ∃ wo : World, wo = wr := ⟨_, rfl⟩
      obtain ⟨hA, hm, hs, hbg, hZ, hsz, hfr⟩ := hAt
      obtain ⟨e0, e1, e2, e3, e4, _⟩ := hA.1.cells
      by_cases hbad : mk.bad = 0
      · obtain ⟨f, rfl⟩ : ∃ f, gk = f + 1 := ⟨gk - 1, by have := hlf hbad; omega⟩
        obtain ⟨v1, L1, hN1, hP1, hA1⟩ := hA.base
        have hM1 := hA.1
        rw [hbg hbad, hbad] at hA1
        rw [hbad] at e4
        have HCS := Lib.hid (step_calls hF hA1 hbad hm (fun i e h => hs.stands hm i e h) hn (by omega) (Nat.le_refl _))
        obtain ⟨m', hst⟩ : ∃ m', mk.step = m' := ⟨_, rfl⟩
        obtain ⟨m', x, more⟩ := m'
        have hbg' : m'.begun = true := by have := (step_stat mk).2; rw [hst, hbg hbad] at this; exact this
        have hok' : MOk fs.length m' := by have := step_ok hm; rw [hst] at this; exact this
        have hs' : SWf m'.S := hs.of (by have := (step_stat mk).1; rw [hst] at this; exact this)
        obtain ⟨cd, hcd⟩ : ∃ cd, m'.bad = cd := ⟨_, rfl⟩
        have HCD := Lib.hid hcd
        have HAt := Lib.hid (fun w2 (h2 : AskInv wo v1 B T mb hb sv fs bottom true 0 I m' w2) => NextAt.intro hF hM1 hP1 hZ hN1 hbg' hok' hs' h2)
        have HWay := Lib.hid (step_way hm hbad hgo (hlf hbad) hst)
        have HBel := Lib.hid (fun W (h : NextAt w v B T mb hb sv fs bottom I m' W) => h.below hF ((Below.refl W.heap.size W).alloc (Nat.le_refl _) (eBlk x)))
        rw [hst] at HCS
        unfold StepPost at HCS
        simp only at HCS
        unfold Ent.val at HCS
        rw [hcd] at HCS HAt
        clear hA hm hs hbg hZ hfr hP1 hA1 hN1 hM1 hst hbg' hok' hs' hgo hlf hcd
        go_wp2_with fail
        refine HCS.out.mono ?_
        rintro e w2 ⟨rfl, h2⟩
        have hA3 := HAt.out w2 h2
        have hA4 := HBel.out _ hA3
        have HAt2 := Lib.hid hA4
        have hmw := h2.1.lt
        have n5 : ¬ (w.heap.size = mb) := fun e => by
          have h1 := hA3.1.1.box
          have h5 := hA3.2.2.2.2.1
          rw [e] at h5
          rw [h5] at h1
          cases h1
        have n6 : ¬ (mb = w.heap.size) := fun e => n5 e.symm
        have hz2 : w2.heap[w.heap.size]? = some (eBlk zeroE) := (Below.heap_setCell w2 ⟨mb, 4, none⟩ (.int .i64 cd) w.heap.size n5).symm.trans hA3.2.2.2.2.1
        have hwl : w.heap.size < w2.heap.size := (Array.getElem?_eq_some_iff.1 hz2).1
        obtain ⟨z0, z1, z2, z3, z4⟩ := eBlk_cells hz2
        have zf := eBlk_free hz2
        unfold zeroE at z0 z1 z2 z3 z4
        obtain ⟨_, d1, _, _, c4, cf⟩ := h2.1.cells
        have c4f := cf 4
        have n1 : ¬ (w2.heap.size = mb) := by omega
        have n2 : ¬ (mb = w2.heap.size) := by omega
        have n3 : ¬ (w2.heap.size = w.heap.size) := by omega
        have n4 : ¬ (w.heap.size = w2.heap.size) := by omega
        obtain ⟨xv, xc, xi, xs, xd⟩ := x
        clear h2 hA3 hA4 hz2 cf e0 e1 e2 e3 e4
        cases HWay.out with
        | bad h1 h2 =>
          have hne : (cd == 0) = false := by rw [beq_eq_false_iff_ne, ← HCD.out]; exact h1
          have HG := Lib.hid h2
          have H1 := Lib.hid h1
          clear h2 h1
          go_wp2
          go_roundg f
          case measure => omega
          case rel => exact ⟨m', HAt2.out, HG.out, fun h => absurd h H1.out⟩
        | stop h1 h2 h3 =>
          have HR3 := Lib.hid (fun W k => HStop.out m' _ _ _ _ HAt2.out h3 W k)
          obtain rfl : cd = 0 := by rw [← HCD.out]; exact h1
          clear h3 h1
          have hw3 : more = false ∨ bottom = false ∨ xd = false := h2
          clear h2 HAt2 HAt HBel HWay HStop HCS HR2 HRel HCB
          cases more with
          | false =>
            clear hw3
            go_wp2
            refine bodyPost_ret (v := .tuple #[.agg #[.int .i64 xv, .string xc, .int .i64 xi, .int .i64 xs, .bool xd], .bool false, .int .i64 0]) ?_ rfl ?_
            · rw [results_cell_tmp2 rfl]
              go_simp
            · exact HR3.out _ (((Fr.refl _ _).set5 (fun _ => by simp) _ _ _ _ _).inAlloc (set5_size _ _ _ _ _ _ _) _)
          | true =>
            cases bottom with
            | false =>
              clear hw3
              go_wp2
              refine bodyPost_ret (v := .tuple #[.agg #[.int .i64 xv, .string xc, .int .i64 xi, .int .i64 xs, .bool xd], .bool true, .int .i64 0]) ?_ rfl ?_
              · rw [results_cell_tmp2 rfl]
                go_simp
              · exact HR3.out _ (((Fr.refl _ _).set5 (fun _ => by simp) _ _ _ _ _).inAlloc (set5_size _ _ _ _ _ _ _) _)
            | true =>
              obtain rfl : xd = false := by simpa using hw3
              clear hw3
              go_wp2
              refine bodyPost_ret (v := .tuple #[.agg #[.int .i64 xv, .string xc, .int .i64 xi, .int .i64 xs, .bool false], .bool true, .int .i64 0]) ?_ rfl ?_
              · rw [results_cell_tmp2 rfl]
                go_simp
              · exact HR3.out _ (((Fr.refl _ _).set5 (fun _ => by simp) _ _ _ _ _).inAlloc (set5_size _ _ _ _ _ _ _) _)
        | on h1 h2 h3 h4 h5 h6 =>
          subst h2 h3
          have h4' : xd = true := h4
          subst h4'
          have HG := Lib.hid h5
          have HL := Lib.hid h6
          obtain rfl : cd = 0 := by rw [← HCD.out]; exact h1
          clear h5 h6 h4 h1
          go_wp2
          go_roundg f
          case measure => omega
          case rel => exact ⟨m', HAt2.out, HG.out, fun _ => HL.out⟩
      · have HR3 := Lib.hid (fun W k => HStop.out mk wo zeroE false mk.bad ⟨hA, hm, hs, hbg, hZ, hsz, hfr⟩ (by rw [← hgo, go_bad hbad]) W k)
        have hne : (mk.bad == 0) = false := by rw [beq_eq_false_iff_ne]; exact hbad
        obtain ⟨z0, z1, z2, z3, z4⟩ := eBlk_cells hZ
        have zf := eBlk_free hZ
        unfold zeroE at z0 z1 z2 z3 z4
        generalize mk.bad = cd at HR3 hne e4
        have n5 : ¬ (w.heap.size = mb) := fun e => by
          have := hA.1.box
          rw [← e, hZ] at this
          cases this
        have n6 : ¬ (mb = w.heap.size) := fun e => n5 e.symm
        clear hA hm hs hbg hZ hfr hgo hlf hbad e0 e1 e2 e3 HStop HR2 HRel HCB
        go_wp2
        go_region
        all_goals
          go_wp2
          refine bodyPost_ret (v := .tuple #[.agg #[.int .i64 0, .string ⟨#[]⟩, .int .i64 0, .int .i64 0, .bool false], .bool false, .int .i64 cd]) ?_ rfl ?_
          · rw [results_cell_tmp2 rfl]
            go_simp
          · exact HR3.out _ (Fr.drew ((Fr.refl _ _).set5 (fun _ => by simp) _ _ _ _ _))
  · have hbt : m.bad = 0 → m.begun = true := fun h => by
      cases hb2 : m.begun with
      | true => rfl
      | false => exact absurd ⟨h, hb2⟩ hbeg
    have hr2 : Mst.go bottom (m.left + 1) m = r := by rw [← hr]; unfold Mst.next; rw [if_neg hbeg]
    rw [hr]
    have HR2 : Hid (NextRel w v B T mb hb sv fs bottom I r (m.left + 1) (w.alloc (eBlk zeroE))) := Lib.hid ⟨m, ⟨hA0, hm, hs, hbt, hz0, by omega, hfr⟩, hr2, fun _ => Nat.lt_succ_self _⟩
    have hM1 := hA0.1
    obtain ⟨_, _, c2, _, c4, _⟩ := hM1.cells
    unfold eBlk zeroE at c2 c4
    by_cases hb0 : m.bad = 0
    · rw [hbt hb0] at c2
      rw [hb0] at c4
      have HMB := Lib.hid hM1
      clear hM hI hm hs hfr hP hH hL hbl hA0 hz0 hs0 hr hr2 hb0 hM1 hbeg hbt
      go_enter Try.func32, Try.ntmps32
      go_wp2
      clear c2 c4
      go_loopg [] (m.left + 1) (fun f wr => NextRel w v B T mb hb sv fs bottom I r f wr)
      case atStart => exact HR2.out
      case round =>
        obtain ⟨mk, hAt, hgo, hlf⟩ := hrel
        obtain ⟨wo, rfl⟩ : ∃ wo : World, wo = wr := ⟨_, rfl⟩
        obtain ⟨hA, hm, hs, hbg, hZ, hsz, hfr⟩ := hAt
        obtain ⟨e0, e1, e2, e3, e4, _⟩ := hA.1.cells
        by_cases hbad : mk.bad = 0
        · obtain ⟨f, rfl⟩ : ∃ f, gk = f + 1 := ⟨gk - 1, by have := hlf hbad; omega⟩
          obtain ⟨v1, L1, hN1, hP1, hA1⟩ := hA.base
          have hM1 := hA.1
          rw [hbg hbad, hbad] at hA1
          rw [hbad] at e4
          have HCS := Lib.hid (step_calls hF hA1 hbad hm (fun i e h => hs.stands hm i e h) hn (by omega) (Nat.le_refl _))
          obtain ⟨m', hst⟩ : ∃ m', mk.step = m' := ⟨_, rfl⟩
          obtain ⟨m', x, more⟩ := m'
          have hbg' : m'.begun = true := by have := (step_stat mk).2; rw [hst, hbg hbad] at this; exact this
          have hok' : MOk fs.length m' := by have := step_ok hm; rw [hst] at this; exact this
          have hs' : SWf m'.S := hs.of (by have := (step_stat mk).1; rw [hst] at this; exact this)
          obtain ⟨cd, hcd⟩ : ∃ cd, m'.bad = cd := ⟨_, rfl⟩
          have HCD := Lib.hid hcd
          have HAt := Lib.hid (fun w2 (h2 : AskInv wo v1 B T mb hb sv fs bottom true 0 I m' w2) => NextAt.intro hF hM1 hP1 hZ hN1 hbg' hok' hs' h2)
          have HWay := Lib.hid (step_way hm hbad hgo (hlf hbad) hst)
          have HBel := Lib.hid (fun W (h : NextAt w v B T mb hb sv fs bottom I m' W) => h.below hF ((Below.refl W.heap.size W).alloc (Nat.le_refl _) (eBlk x)))
          rw [hst] at HCS
          unfold StepPost at HCS
          simp only at HCS
          unfold Ent.val at HCS
          rw [hcd] at HCS HAt
          clear hA hm hs hbg hZ hfr hP1 hA1 hN1 hM1 hst hbg' hok' hs' hgo hlf hcd
          go_wp2_with fail
          refine HCS.out.mono ?_
          rintro e w2 ⟨rfl, h2⟩
          have hA3 := HAt.out w2 h2
          have hA4 := HBel.out _ hA3
          have HAt2 := Lib.hid hA4
          have hmw := h2.1.lt
          have n5 : ¬ (w.heap.size = mb) := fun e => by
            have h1 := hA3.1.1.box
            have h5 := hA3.2.2.2.2.1
            rw [e] at h5
            rw [h5] at h1
            cases h1
          have n6 : ¬ (mb = w.heap.size) := fun e => n5 e.symm
          have hz2 : w2.heap[w.heap.size]? = some (eBlk zeroE) := (Below.heap_setCell w2 ⟨mb, 4, none⟩ (.int .i64 cd) w.heap.size n5).symm.trans hA3.2.2.2.2.1
          have hwl : w.heap.size < w2.heap.size := (Array.getElem?_eq_some_iff.1 hz2).1
          obtain ⟨z0, z1, z2, z3, z4⟩ := eBlk_cells hz2
          have zf := eBlk_free hz2
          unfold zeroE at z0 z1 z2 z3 z4
          obtain ⟨_, d1, _, _, c4, cf⟩ := h2.1.cells
          have c4f := cf 4
          have n1 : ¬ (w2.heap.size = mb) := by omega
          have n2 : ¬ (mb = w2.heap.size) := by omega
          have n3 : ¬ (w2.heap.size = w.heap.size) := by omega
          have n4 : ¬ (w.heap.size = w2.heap.size) := by omega
          obtain ⟨xv, xc, xi, xs, xd⟩ := x
          clear h2 hA3 hA4 hz2 cf e0 e1 e2 e3 e4
          cases HWay.out with
          | bad h1 h2 =>
            have hne : (cd == 0) = false := by rw [beq_eq_false_iff_ne, ← HCD.out]; exact h1
            have HG := Lib.hid h2
            have H1 := Lib.hid h1
            clear h2 h1
            go_wp2
            go_roundg f
            case measure => omega
            case rel => exact ⟨m', HAt2.out, HG.out, fun h => absurd h H1.out⟩
          | stop h1 h2 h3 =>
            have HR3 := Lib.hid (fun W k => HStop.out m' _ _ _ _ HAt2.out h3 W k)
            obtain rfl : cd = 0 := by rw [← HCD.out]; exact h1
            clear h3 h1
            have hw3 : more = false ∨ bottom = false ∨ xd = false := h2
            clear h2 HAt2 HAt HBel HWay HStop HCS HR2
            cases more with
            | false =>
              clear hw3
              go_wp2
              refine bodyPost_ret (v := .tuple #[.agg #[.int .i64 xv, .string xc, .int .i64 xi, .int .i64 xs, .bool xd], .bool false, .int .i64 0]) ?_ rfl ?_
              · rw [results_cell_tmp2 rfl]
                go_simp
              · exact HR3.out _ (((Fr.refl _ _).set5 (fun _ => by simp) _ _ _ _ _).inAlloc (set5_size _ _ _ _ _ _ _) _)
            | true =>
              cases bottom with
              | false =>
                clear hw3
                go_wp2
                refine bodyPost_ret (v := .tuple #[.agg #[.int .i64 xv, .string xc, .int .i64 xi, .int .i64 xs, .bool xd], .bool true, .int .i64 0]) ?_ rfl ?_
                · rw [results_cell_tmp2 rfl]
                  go_simp
                · exact HR3.out _ (((Fr.refl _ _).set5 (fun _ => by simp) _ _ _ _ _).inAlloc (set5_size _ _ _ _ _ _ _) _)
              | true =>
                obtain rfl : xd = false := by simpa using hw3
                clear hw3
                go_wp2
                refine bodyPost_ret (v := .tuple #[.agg #[.int .i64 xv, .string xc, .int .i64 xi, .int .i64 xs, .bool false], .bool true, .int .i64 0]) ?_ rfl ?_
                · rw [results_cell_tmp2 rfl]
                  go_simp
                · exact HR3.out _ (((Fr.refl _ _).set5 (fun _ => by simp) _ _ _ _ _).inAlloc (set5_size _ _ _ _ _ _ _) _)
          | on h1 h2 h3 h4 h5 h6 =>
            subst h2 h3
            have h4' : xd = true := h4
            subst h4'
            have HG := Lib.hid h5
            have HL := Lib.hid h6
            obtain rfl : cd = 0 := by rw [← HCD.out]; exact h1
            clear h5 h6 h4 h1
            go_wp2
            go_roundg f
            case measure => omega
            case rel => exact ⟨m', HAt2.out, HG.out, fun _ => HL.out⟩
        · have HR3 := Lib.hid (fun W k => HStop.out mk wo zeroE false mk.bad ⟨hA, hm, hs, hbg, hZ, hsz, hfr⟩ (by rw [← hgo, go_bad hbad]) W k)
          have hne : (mk.bad == 0) = false := by rw [beq_eq_false_iff_ne]; exact hbad
          obtain ⟨z0, z1, z2, z3, z4⟩ := eBlk_cells hZ
          have zf := eBlk_free hZ
          unfold zeroE at z0 z1 z2 z3 z4
          generalize mk.bad = cd at HR3 hne e4
          have n5 : ¬ (w.heap.size = mb) := fun e => by
            have := hA.1.box
            rw [← e, hZ] at this
            cases this
          have n6 : ¬ (mb = w.heap.size) := fun e => n5 e.symm
          clear hA hm hs hbg hZ hfr hgo hlf hbad e0 e1 e2 e3 HStop HR2
          go_wp2
          go_region
          all_goals
            go_wp2
            refine bodyPost_ret (v := .tuple #[.agg #[.int .i64 0, .string ⟨#[]⟩, .int .i64 0, .int .i64 0, .bool false], .bool false, .int .i64 cd]) ?_ rfl ?_
            · rw [results_cell_tmp2 rfl]
              go_simp
            · exact HR3.out _ (Fr.drew ((Fr.refl _ _).set5 (fun _ => by simp) _ _ _ _ _))
    · have hne0 : (m.bad == 0) = false := by rw [beq_eq_false_iff_ne]; exact hb0
      generalize hcm : m.bad = cm at c4 hne0
      clear hM hI hm hs hfr hP hH hL hbl hA0 hz0 hs0 hr hr2 hb0 hM1 hbeg hbt hcm
      go_enter Try.func32, Try.ntmps32
      go_wp2
      clear c2 c4
      go_loopg [] (m.left + 1) (fun f wr => NextRel w v B T mb hb sv fs bottom I r f wr)
      case atStart => exact HR2.out
      case round =>
        obtain ⟨mk, hAt, hgo, hlf⟩ := hrel
        obtain ⟨wo, rfl⟩ : ∃ wo : World, wo = wr := ⟨_, rfl⟩
        obtain ⟨hA, hm, hs, hbg, hZ, hsz, hfr⟩ := hAt
        obtain ⟨e0, e1, e2, e3, e4, _⟩ := hA.1.cells
        by_cases hbad : mk.bad = 0
        · obtain ⟨f, rfl⟩ : ∃ f, gk = f + 1 := ⟨gk - 1, by have := hlf hbad; omega⟩
          obtain ⟨v1, L1, hN1, hP1, hA1⟩ := hA.base
          have hM1 := hA.1
          rw [hbg hbad, hbad] at hA1
          rw [hbad] at e4
          have HCS := Lib.hid (step_calls hF hA1 hbad hm (fun i e h => hs.stands hm i e h) hn (by omega) (Nat.le_refl _))
          obtain ⟨m', hst⟩ : ∃ m', mk.step = m' := ⟨_, rfl⟩
          obtain ⟨m', x, more⟩ := m'
          have hbg' : m'.begun = true := by have := (step_stat mk).2; rw [hst, hbg hbad] at this; exact this
          have hok' : MOk fs.length m' := by have := step_ok hm; rw [hst] at this; exact this
          have hs' : SWf m'.S := hs.of (by have := (step_stat mk).1; rw [hst] at this; exact this)
          obtain ⟨cd, hcd⟩ : ∃ cd, m'.bad = cd := ⟨_, rfl⟩
          have HCD := Lib.hid hcd
          have HAt := Lib.hid (fun w2 (h2 : AskInv wo v1 B T mb hb sv fs bottom true 0 I m' w2) => NextAt.intro hF hM1 hP1 hZ hN1 hbg' hok' hs' h2)
          have HWay := Lib.hid (step_way hm hbad hgo (hlf hbad) hst)
          have HBel := Lib.hid (fun W (h : NextAt w v B T mb hb sv fs bottom I m' W) => h.below hF ((Below.refl W.heap.size W).alloc (Nat.le_refl _) (eBlk x)))
          rw [hst] at HCS
          unfold StepPost at HCS
          simp only at HCS
          unfold Ent.val at HCS
          rw [hcd] at HCS HAt
          clear hA hm hs hbg hZ hfr hP1 hA1 hN1 hM1 hst hbg' hok' hs' hgo hlf hcd
          go_wp2_with fail
          refine HCS.out.mono ?_
          rintro e w2 ⟨rfl, h2⟩
          have hA3 := HAt.out w2 h2
          have hA4 := HBel.out _ hA3
          have HAt2 := Lib.hid hA4
          have hmw := h2.1.lt
          have n5 : ¬ (w.heap.size = mb) := fun e => by
            have h1 := hA3.1.1.box
            have h5 := hA3.2.2.2.2.1
            rw [e] at h5
            rw [h5] at h1
            cases h1
          have n6 : ¬ (mb = w.heap.size) := fun e => n5 e.symm
          have hz2 : w2.heap[w.heap.size]? = some (eBlk zeroE) := (Below.heap_setCell w2 ⟨mb, 4, none⟩ (.int .i64 cd) w.heap.size n5).symm.trans hA3.2.2.2.2.1
          have hwl : w.heap.size < w2.heap.size := (Array.getElem?_eq_some_iff.1 hz2).1
          obtain ⟨z0, z1, z2, z3, z4⟩ := eBlk_cells hz2
          have zf := eBlk_free hz2
          unfold zeroE at z0 z1 z2 z3 z4
          obtain ⟨_, d1, _, _, c4, cf⟩ := h2.1.cells
          have c4f := cf 4
          have n1 : ¬ (w2.heap.size = mb) := by omega
          have n2 : ¬ (mb = w2.heap.size) := by omega
          have n3 : ¬ (w2.heap.size = w.heap.size) := by omega
          have n4 : ¬ (w.heap.size = w2.heap.size) := by omega
          obtain ⟨xv, xc, xi, xs, xd⟩ := x
          clear h2 hA3 hA4 hz2 cf e0 e1 e2 e3 e4
          cases HWay.out with
          | bad h1 h2 =>
            have hne : (cd == 0) = false := by rw [beq_eq_false_iff_ne, ← HCD.out]; exact h1
            have HG := Lib.hid h2
            have H1 := Lib.hid h1
            clear h2 h1
            go_wp2
            go_roundg f
            case measure => omega
            case rel => exact ⟨m', HAt2.out, HG.out, fun h => absurd h H1.out⟩
          | stop h1 h2 h3 =>
            have HR3 := Lib.hid (fun W k => HStop.out m' _ _ _ _ HAt2.out h3 W k)
            obtain rfl : cd = 0 := by rw [← HCD.out]; exact h1
            clear h3 h1
            have hw3 : more = false ∨ bottom = false ∨ xd = false := h2
            clear h2 HAt2 HAt HBel HWay HStop HCS HR2
            cases more with
            | false =>
              clear hw3
              go_wp2
              refine bodyPost_ret (v := .tuple #[.agg #[.int .i64 xv, .string xc, .int .i64 xi, .int .i64 xs, .bool xd], .bool false, .int .i64 0]) ?_ rfl ?_
              · rw [results_cell_tmp2 rfl]
                go_simp
              · exact HR3.out _ (((Fr.refl _ _).set5 (fun _ => by simp) _ _ _ _ _).inAlloc (set5_size _ _ _ _ _ _ _) _)
            | true =>
              cases bottom with
              | false =>
                clear hw3
                go_wp2
                refine bodyPost_ret (v := .tuple #[.agg #[.int .i64 xv, .string xc, .int .i64 xi, .int .i64 xs, .bool xd], .bool true, .int .i64 0]) ?_ rfl ?_
                · rw [results_cell_tmp2 rfl]
                  go_simp
                · exact HR3.out _ (((Fr.refl _ _).set5 (fun _ => by simp) _ _ _ _ _).inAlloc (set5_size _ _ _ _ _ _ _) _)
              | true =>
                obtain rfl : xd = false := by simpa using hw3
                clear hw3
                go_wp2
                refine bodyPost_ret (v := .tuple #[.agg #[.int .i64 xv, .string xc, .int .i64 xi, .int .i64 xs, .bool false], .bool true, .int .i64 0]) ?_ rfl ?_
                · rw [results_cell_tmp2 rfl]
                  go_simp
                · exact HR3.out _ (((Fr.refl _ _).set5 (fun _ => by simp) _ _ _ _ _).inAlloc (set5_size _ _ _ _ _ _ _) _)
          | on h1 h2 h3 h4 h5 h6 =>
            subst h2 h3
            have h4' : xd = true := h4
            subst h4'
            have HG := Lib.hid h5
            have HL := Lib.hid h6
            obtain rfl : cd = 0 := by rw [← HCD.out]; exact h1
            clear h5 h6 h4 h1
            go_wp2
            go_roundg f
            case measure => omega
            case rel => exact ⟨m', HAt2.out, HG.out, fun _ => HL.out⟩
        · have HR3 := Lib.hid (fun W k => HStop.out mk wo zeroE false mk.bad ⟨hA, hm, hs, hbg, hZ, hsz, hfr⟩ (by rw [← hgo, go_bad hbad]) W k)
          have hne : (mk.bad == 0) = false := by rw [beq_eq_false_iff_ne]; exact hbad
          obtain ⟨z0, z1, z2, z3, z4⟩ := eBlk_cells hZ
          have zf := eBlk_free hZ
          unfold zeroE at z0 z1 z2 z3 z4
          generalize mk.bad = cd at HR3 hne e4
          have n5 : ¬ (w.heap.size = mb) := fun e => by
            have := hA.1.box
            rw [← e, hZ] at this
            cases this
          have n6 : ¬ (mb = w.heap.size) := fun e => n5 e.symm
          clear hA hm hs hbg hZ hfr hgo hlf hbad e0 e1 e2 e3 HStop HR2
          go_wp2
          go_region
          all_goals
            go_wp2
            refine bodyPost_ret (v := .tuple #[.agg #[.int .i64 0, .string ⟨#[]⟩, .int .i64 0, .int .i64 0, .bool false], .bool false, .int .i64 cd]) ?_ rfl ?_
            · rw [results_cell_tmp2 rfl]
              go_simp
            · exact HR3.out _ (Fr.drew ((Fr.refl _ _).set5 (fun _ => by simp) _ _ _ _ _))
end Go.Proofs.Ytahdaccmokjgpaa

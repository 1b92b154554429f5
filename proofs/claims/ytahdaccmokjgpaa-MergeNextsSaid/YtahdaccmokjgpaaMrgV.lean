/-
  WALK: a step of a merger.
-/
import Derived.Test.YtahdaccmokjgpaaMrgP
import Derived.Test.YtahdaccmokjgpaaMarkE
namespace Go.Proofs.Ytahdaccmokjgpaa
open Go.RowKit ArgK
set_option linter.unusedVariables false

set_option maxRecDepth 100000 in
set_option maxHeartbeats 2000000 in
theorem step_calls {B : Nat} {T : List TypeId} {fs : List Value} {I : World → List Sst → Prop} (hF : FeedLaw B T fs I) {w0 w : World} {mb hb : Nat} {sv v0 : Value} {bottom : Bool} {m : Mst}
    (hA : AskInv w0 v0 B T mb hb sv fs bottom true 0 I m w) (hbad : m.bad = 0) (hm : MOk fs.length m) (hwf : ∀ (i : Nat) (e : Ent), m.F[i]? = some (some e) → (Lit.int .i64 e.s).wf = true) (hn : fs.length ≤ 1024) (hB : B ≤ w0.heap.size) (hw : w0.heap.size ≤ w.heap.size) :
    Calls Try.prog 46 #[.pointer (some ⟨mb, 0, none⟩)] w (StepPost w0 v0 B T mb hb sv fs bottom I m.step) := by
  obtain ⟨hM, hI, v, L, hP, hH, hL, hN⟩ := hA
  have hbl := (Below.refl w.heap.size w).alloc (Nat.le_refl _) (eBlk zeroE)
  have hM0 : MrgIs (w.alloc (eBlk zeroE)) B mb hb sv fs bottom true 0 := hM.fm (X := []) (T := []) (Fm.of_below (B := B) hbl) ⟨by simp, by simp, by simp, by simp, by simp⟩ (by simp) (by simp)
  have hP0 : PileD (w.alloc (eBlk zeroE)) B hb v L := hP.keep (T := []) (Kp.of_below (B := B) hbl) (by simp) (by simp)
  have hI0 : I (w.alloc (eBlk zeroE)) m.S := hF.keep hI (Kp.of_below hbl)
  have hN0 : NK B T mb hb w0 v0 (w.alloc (eBlk zeroE)) v := hN.trans (NK.of_below hbl)
  have hz0 := World.alloc_heap_new w (eBlk zeroE)
  have hs0 : (w.alloc (eBlk zeroE)).heap.size = w.heap.size + 1 := by simp
  have hlen : L.length ≤ 1024 := by
    rw [(hL hbad).length_eq]
    have := stands_length m.F
    have := hm.lenF
    omega
  have HC := Lib.hid (same_calls hM0 hP0 hH (hL hbad) hlen (by omega))
  have hhb := hP.lt
  have HM0 := Lib.hid hM0
  have HP0 := Lib.hid hP0
  have HI0 := Lib.hid hI0
  have HN0 := Lib.hid hN0
  have HZ0 := Lib.hid hz0
  have HHB := Lib.hid hhb
  have HHB2 := Lib.hid hhb
  have HS0 := Lib.hid hs0
  clear hM hI hP hH hL hN hM0 hP0 hI0 hN0 hz0 hbl hhb hs0
  have hbu : ∀ W : World, (Instr.build 24 #[]).run Try.prog W = .ok (.agg #[.int .i64 0, .string ⟨#[]⟩, .int .i64 0, .int .i64 0, .bool false]) W := fun W => run_build W _ _ _ (by kernel_rfl)
  go_enter Try.func46, Try.ntmps46
  go_wp2_with fail
  refine HC.out.mono ?_
  rintro e w1 ⟨lv, out, Lk, v', rfl, hrow, hE, hM1, hP1, hH1, hK1, hne⟩
  have hk1 : Kp B mTypes (w.alloc (eBlk zeroE)) w1 := (NK.kp HM0.out HP0.out (NK.of_mk hK1)).mono (Nat.le_refl _) (by simp)
  have hI1 : I w1 m.S := hF.keep HI0.out hk1
  have hN1 : NK B T mb hb w0 v0 w1 v' := HN0.out.trans (NK.of_mk ⟨hK1.1.mono (by simp) (fun x hx => hx), hK1.2⟩)
  have hZ1 : w1.heap[w.heap.size]? = some (eBlk zeroE) := by
    refine hK1.1.box HZ0.out (.inl (by simp)) ?_
    simp only [List.mem_cons, List.not_mem_nil, or_false, Option.some.injEq, not_or]
    have := HHB.out
    exact ⟨by omega, fun e => row_far HP0.out.row HZ0.out (by decide) _ e.symm rfl⟩
  have hs1 : w.heap.size < w1.heap.size := by have := hK1.1.size; have := HS0.out; omega
  rw [HS0.out] at hrow
  clear hK1 hk1 HM0 HP0 HI0 HN0 HZ0 HHB HC
  obtain ⟨lp, lc, hlvs, hlcc, hlcm, hlr⟩ := own_rd hrow
  rcases hE with ⟨ho, hLk, hle⟩ | ⟨ho, q, hle, hoq, hLk⟩
  · subst ho hLk
    have HE := Lib.hid (step_none hle)
    have HA1 := Lib.hid (fun W (hW : Fr w1 W [some w.heap.size]) => AskInv.far (cs := #[.int .i64 0, .string ⟨#[]⟩, .int .i64 0, .int .i64 0, .bool false]) (fr := (0, 0)) (m := m) hF ⟨hM1, hI1, v', [], hP1, hH1, fun _ => by
      have : stands m.F = [] := leastE_none hle
      rw [this], hN1⟩ hZ1 hw (by omega) hW)
    have HBAD := Lib.hid hbad
    obtain ⟨z0, z1, z2, z3, z4⟩ := eBlk_cells hZ1
    have zf := eBlk_free hZ1
    unfold zeroE at z0 z1 z2 z3 z4
    clear hrow hM1 hP1 hH1 hI1 hN1 hZ1 hlr hle hne hlcc hlcm hbad
    subst hlvs
    go_wp2
    refine bodyPost_ret (v := .tuple #[.agg #[.int .i64 0, .string ⟨#[]⟩, .int .i64 0, .int .i64 0, .bool false], .bool false, .int .i64 0]) ?_ rfl ⟨?_, ?_⟩
    · rw [results_cell_tmp2 rfl]
      go_simp
    · rw [HE.out]
      simp only [HBAD.out]
      rfl
    · rw [HE.out]
      exact HA1.out _ ((Fr.refl w1 _).set5 (fun _ => by simp) _ _ _ _ _)
  · obtain ⟨y, l, rfl⟩ : ∃ y l, out = y :: l := by
      cases out with
      | nil => exact absurd rfl ho
      | cons y l => exact ⟨y, l, rfl⟩
    obtain ⟨g, hlg, _, hglt, _, _⟩ := hlr (by simp)
    subst hlg hlvs
    have hlen2 : (y :: l).length ≤ 1024 := by
      rw [hoq]
      have h1 := List.length_filter_le (fun x : Hdv => decide (eat q x.e)) (stands m.F)
      have h2 := stands_length m.F
      have h3 := hm.lenF
      unfold atPlace
      omega
    have HCW := Lib.hid (word_calls hrow hlen2 (fun x hx => by
      rw [hoq] at hx
      exact hwf _ _ (atPlace_mem hx).1))
    have HRW := Lib.hid hrow
    have hn0 : (0 : Int) < ((y :: l).length : Int) := by rw [List.length_cons]; omega
    have hne0 : (((y :: l).length : Int) == 0) = false := by rw [beq_eq_false_iff_ne, List.length_cons]; omega
    generalize hnn : (y :: l).length = n at HCW hn0 hne0 hlen2 HRW
    have HLN := Lib.hid hnn
    cases hwd : wordOf (y :: l) with
    | none =>
      have HE := Lib.hid (step_twice hle (by rw [← hoq]; exact hwd))
      have HA1 := Lib.hid (fun w2 (hb2 : Below w1.heap.size w1 w2) W (hW : Fr w2 W [some w.heap.size]) => AskInv.far (cs := #[.int .i64 0, .string ⟨#[]⟩, .int .i64 0, .int .i64 0, .bool false]) (fr := (0, 0)) (m := { m with F := offPlace q m.F, bad := 51 }) hF
        (AskInv.below hF (show AskInv w0 v0 B T mb hb sv fs bottom true 0 I { m with F := offPlace q m.F, bad := 51 } w1 from ⟨hM1, hI1, v', Lk, hP1, hH1, fun h => absurd (show (51 : Int) = 0 from h) (by decide), hN1⟩) hb2) ((hb2.block _ hs1).trans hZ1) hw (by omega) hW)
      have HZ := Lib.hid hZ1
      unfold WordPost at HCW
      simp only [hwd, Option.getD_none, Option.isSome_none, Bool.false_eq_true, if_false] at HCW
      unfold zeroE Ent.val at HCW
      clear hrow hM1 hP1 hH1 hI1 hN1 hZ1 hlr hle hne hlcc hlcm hbad hwd hoq ho hnn hLk
      go_wp2_with fail
      refine HCW.out.mono ?_
      rintro e w2 ⟨rfl, hb2⟩
      have hZ2 := (hb2.block _ hs1).trans HZ.out
      have hs2 := hb2.size
      have hZ3 := (Below.heap_alloc w2 (eBlk zeroE) w.heap.size (by omega)).trans hZ2
      obtain ⟨z0, z1, z2, z3, z4⟩ := eBlk_cells hZ3
      have zf := eBlk_free hZ3
      have HA2 := Lib.hid (HA1.out (w2.alloc (eBlk zeroE)) (hb2.alloc hs2 _))
      clear hb2 hZ2 hZ3
      unfold eBlk zeroE at z0 z1 z2 z3 z4 zf
      go_wp2
      refine bodyPost_ret (v := .tuple #[.agg #[.int .i64 0, .string ⟨#[]⟩, .int .i64 0, .int .i64 0, .bool false], .bool false, .int .i64 51]) ?_ rfl ⟨?_, ?_⟩
      · rw [results_cell_tmp2 rfl]
        go_simp
      · rw [HE.out]
        rfl
      · rw [HE.out]
        exact HA2.out _ ((Fr.refl _ _).set5 (fun _ => by simp) _ _ _ _ _)
    | some b =>
      have HE := Lib.hid (step_some hle (by rw [← hoq]; exact hwd))
      obtain ⟨M, hMM⟩ : ∃ M, ({ m with F := offPlace q m.F } : Mst).asks ((atPlace q (stands m.F)).map Hdv.n) = M := ⟨_, rfl⟩
      rw [hMM] at HE
      have HSR := Lib.hid (fun w2 (hb2 : Below w1.heap.size w1 w2) R (hR : w.heap.size < R) (h15 : w2.heap[R]? = some (eBlk b)) => by
        have hs := StepRel.start (w0 := w0) (v0 := v0) (T := T) (bottom := bottom) (I := I) (w := w) (b := b) (R := R) (lv := .slice (some ⟨g, 0, none⟩) (y :: l).length lc) (v := v') (Lk := Lk) (q := q) (wr := w2) hbad hm
          (hM1.fm (X := []) (T := []) (Fm.of_below (B := B) hb2) ⟨by simp, by simp, by simp, by simp, by simp⟩ (by simp) (by simp)) (hF.keep hI1 (Kp.of_below hb2)) (hP1.keep (T := []) (Kp.of_below (B := B) hb2) (by simp) (by simp)) hH1 hLk (hN1.trans (NK.of_below hb2)) hne (by rw [← hoq]; exact own_belowAll hrow hb2) ((hb2.block _ hs1).trans hZ1) hR h15 (Nat.lt_of_lt_of_le hs1 hb2.size)
        rw [hMM, ← hoq] at hs
        exact hs)
      have HRound := Lib.hid (fun R k wr x (h : StepRel w0 v0 B T mb hb sv fs bottom I w b R (.slice (some ⟨g, 0, none⟩) (y :: l).length lc) (y :: l) M k wr) hx => StepRel.round (x := x) hF hn hB hw HHB2.out h hx)
      unfold WordPost at HCW
      simp only [hwd, Option.getD_some, Option.isSome_some, if_true] at HCW
      unfold Ent.val at HCW
      rw [HLN.out] at HSR HRound
      clear hrow hM1 hP1 hH1 hI1 hN1 hZ1 hlr hle hne hlcc hlcm hbad hwd hoq ho hnn hLk hMM
      go_wp2_with fail
      refine HCW.out.mono ?_
      rintro e w2 ⟨rfl, hb2⟩
      have hs2 := hb2.size
      have HSR2 := Lib.hid (HSR.out (w2.alloc (eBlk b)) (hb2.alloc hs2 _) w2.heap.size (by omega) (World.alloc_heap_new w2 (eBlk b)))
      clear hb2
      go_wp2
      go_loopw [28] (fun i wr => ∃ k : Nat, k ≤ n ∧ i = .int .i64 k ∧ StepRel w0 v0 B T mb hb sv fs bottom I w b w2.heap.size (.slice (some ⟨g, 0, none⟩) n lc) (y :: l) M k wr) (fun i _ => n - (intOf i).toNat)
      case atStart => exact ⟨0, Nat.zero_le _, rfl, HSR2.out⟩
      case round =>
        obtain ⟨k, hk, rfl, hR⟩ := hrel
        obtain ⟨hrow2, hz, hRl, hbk, hsw⟩ := hR.facts
        rw [HLN.out] at hrow2
        by_cases hlt : k < n
        · obtain ⟨x, hx⟩ : ∃ x, (y :: l)[k]? = some x := ⟨_, List.getElem?_eq_getElem (by rw [HLN.out]; exact hlt)⟩
          obtain ⟨x0, x1, x2, x3, x4, x5⟩ := own_sixD hrow2 hx
          have HRx := Lib.hid (HRound.out _ k wr x hR hx)
          have hgw := cell_lt x0
          have i0 : (0 : Int) ≤ (k : Int) := by omega
          have i1 : (k : Int) < (n : Int) := by omega
          clear hR hrow2 hz hRl hbk hx
          go_wp2_with fail
          refine HRx.out.mono ?_
          rintro e w3 ⟨r, rfl, hr1, hr2⟩
          by_cases hr : r = 0
          · subst hr
            have HR2 := Lib.hid (hr1 rfl)
            clear hr1 hr2
            go_wp2
            go_roundw
            case rel => exact ⟨k + 1, by omega, by go_num, HR2.out⟩
            case measure => simp [intOf]; omega
          · obtain ⟨hMb, hA3, hZ3⟩ := hr2 hr
            have hne : (r != 0) = true := by rw [bne_iff_ne]; exact hr
            have HMB := Lib.hid hMb
            have HA3 := Lib.hid (fun W (hW : Fr w3 W [some w.heap.size]) => AskInv.far (cs := #[.int .i64 0, .string ⟨#[]⟩, .int .i64 0, .int .i64 0, .bool false]) (fr := (0, 0)) hF hA3 hZ3 hw (by omega) hW)
            obtain ⟨z0, z1, z2, z3, z4⟩ := eBlk_cells hZ3
            have zf := eBlk_free hZ3
            unfold zeroE at z0 z1 z2 z3 z4
            clear hr1 hr2 hMb hA3 hZ3
            go_wp2
            refine bodyPost_ret (v := .tuple #[.agg #[.int .i64 0, .string ⟨#[]⟩, .int .i64 0, .int .i64 0, .bool false], .bool false, .int .i64 r]) ?_ rfl ⟨?_, ?_⟩
            · rw [results_cell_tmp2 rfl]
              go_simp
            · rw [HE.out, if_neg (by rw [HMB.out]; exact hr)]
              simp only [HMB.out]
              rfl
            · rw [HE.out, if_neg (by rw [HMB.out]; exact hr)]
              exact HA3.out _ ((Fr.refl _ _).set5 (fun _ => by simp) _ _ _ _ _)
        · obtain rfl : k = n := by omega
          obtain ⟨hMb, hA3⟩ := hR.inv (by rw [HLN.out]; exact Nat.le_refl _)
          have HMB := Lib.hid hMb
          have HA3 := Lib.hid (fun W (hW : Fr wr W [some w.heap.size]) => AskInv.far (cs := #[.int .i64 0, .string ⟨#[]⟩, .int .i64 0, .int .i64 0, .bool false]) (fr := (0, 0)) hF hA3 hz hw (by omega) hW)
          obtain ⟨z0, z1, z2, z3, z4⟩ := eBlk_cells hz
          have zf := eBlk_free hz
          unfold zeroE at z0 z1 z2 z3 z4
          obtain ⟨b0, b1, b2, b3, b4⟩ := eBlk_cells hbk
          clear hMb hA3 hR hrow2 hz hbk
          go_wp2
          refine bodyPost_ret (v := .tuple #[.agg #[.int .i64 b.v, .string b.c, .int .i64 b.i, .int .i64 b.s, .bool b.d], .bool true, .int .i64 0]) ?_ rfl ⟨?_, ?_⟩
          · rw [results_cell_tmp2 rfl]
            go_simp
          · rw [HE.out, if_pos HMB.out]
            simp only [HMB.out]
            rfl
          · rw [HE.out, if_pos HMB.out]
            exact HA3.out _ ((Fr.refl _ _).set5 (fun _ => by simp) _ _ _ _ _)
end Go.Proofs.Ytahdaccmokjgpaa

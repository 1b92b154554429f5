/-
  WALK: the document's Next. (Printed by nextrgen.py and heldfill.py.)
-/
import Derived.Test.YtahdaccmokjgpaaNxD
namespace Go.Proofs.Ytahdaccmokjgpaa
open Go.RowKit ArgK
set_option linter.unusedVariables false

set_option maxRecDepth 100000 in
set_option maxHeartbeats 8000000 in
theorem RNext_going {w : World} {B rb : Nat} {p : Option Addr} {n c : Nat} {bottom : Bool} {ks : List Kl} {bad : Int} {m : Mst} (h : RmAt w B rb p n c bottom ks true bad) (hB : B ≤ w.heap.size) (hsim : Sim n m ⟨ks.map Kl.rl, true, bad⟩) (hn : n ≤ 1024) :
    Calls Try.prog 38 #[.pointer (some ⟨rb, 0, none⟩)] w (RNPost w B rb p n c bottom (m.next bottom)) := by
  have hbu : ∀ W : World, (Instr.build 24 #[]).run Try.prog W = .ok (.agg #[.int .i64 0, .string ⟨#[]⟩, .int .i64 0, .int .i64 0, .bool false]) W := fun W => run_build W _ _ _ (by kernel_rfl)
  obtain ⟨R, hR⟩ : ∃ R, m.next bottom = R := ⟨_, rfl⟩
  have hr2 : Mst.go bottom (m.left + 1) m = R := by
    rw [← hR]
    unfold Mst.next
    rw [if_neg (fun k => by rw [show m.begun = true from hsim.begun] at k; exact absurd k.2 (by simp))]
  rw [hR]
  have hbl : Below w.heap.size w (w.alloc (eBlk zeroE)) := (Below.refl _ w).alloc (Nat.le_refl _) _
  have HRel0 : Hid (RNRel w B rb p n c bottom R (m.left + 1) (w.alloc (eBlk zeroE))) := Lib.hid ⟨m, ks, bad, h.below hbl, hsim, hr2, fun _ => Nat.lt_succ_self _, World.alloc_heap_new w _, Kp.of_below hbl⟩
  have c2 := (h.below hbl).cells.2.2.1
  unfold eBlk zeroE at c2
  have HB := Lib.hid hB
  have HN1024 := Lib.hid hn
  generalize m.left + 1 = F0 at HRel0
  clear h hB hsim hn hR hr2 hbl
  go_enter Try.func38, Try.ntmps38
  go_wp2
  clear c2
  go_loopg [] F0 (fun f wr => RNRel w B rb p n c bottom R f wr)
  case atStart => exact HRel0.out
  case round =>
    obtain ⟨mm, ks1, bad1, hA, hsim, hgo, hlf, hZ, hkp⟩ := hrel
    obtain ⟨wo, rfl⟩ : ∃ wo : World, wo = wr := ⟨_, rfl⟩
    obtain ⟨c0, c1, c2, c3, cf⟩ := hA.cells
    have hBo : B ≤ wo.heap.size := Nat.le_trans HB.out hkp.size
    by_cases hbad : bad1 = 0
    · subst hbad
      have hmb : mm.bad = 0 := hsim.bad
      obtain ⟨f, rfl⟩ : ∃ f, gk = f + 1 := ⟨gk - 1, by have := hlf hmb; omega⟩
      have hlf' := hlf hmb
      have hstn : ∀ (j : Nat) (y : Rl), (ks1.map Kl.rl)[j]? = some y → Stn y := fun j y hy => (hsim.cur rfl rfl j y hy).2
      have hstk : ∀ x ∈ ks1, Stn x.rl := fun x hx => by
        obtain ⟨j, hj⟩ := List.getElem?_of_mem hx
        exact hstn j x.rl (by rw [List.getElem?_map, hj]; rfl)
      have hLE := RLeast_calls hA hBo hstk HN1024.out
      have hll : (ks1.map Kl.rl).length = n := hsim.len
      have HA := Lib.hid hA
      have HZ := Lib.hid hZ
      have HK := Lib.hid hkp
      have HSK1 : Hid (∀ W, Below wo.heap.size wo W → RmAt W B rb p n c bottom ks1 true 0 ∧ W.heap[w.heap.size]? = some (eBlk zeroE) ∧ Kp B rT w W) := Lib.hid (fun W hW => ⟨hA.below hW, (hW.block _ (Array.getElem?_eq_some_iff.1 hZ).1).trans hZ, hkp.trans (Kp.of_below hW)⟩)
      cases hbt : bestTo (ks1.map Kl.rl) (ks1.map Kl.rl).length with
      | none =>
        obtain ⟨m', hs', hR⟩ := rn_none hsim rfl rfl hgo hlf' hbt
        have hlr : leastRes (ks1.map Kl.rl) = (-1, 0) := by unfold leastRes; rw [hbt]
        rw [hlr] at hLE
        have HLE := Lib.hid hLE
        have HST := Lib.hid (fun wr W (hA2 : RmAt wr B rb p n c bottom ks1 true 0) hZ2 hK2 k => RNPost.stop (wr := wr) (W := W) HB.out hA2 hs' hR hZ2 hK2 k)
        clear hA hsim hgo hlf hlf' hZ hkp hmb hstn hstk hLE hbt hs' hR hlr hll
        go_wp2_with fail
        refine HLE.out.mono ?_
        rintro e w2 ⟨rfl, hb2⟩
        obtain ⟨hA, hZ, hK⟩ := HSK1.out _ hb2
        obtain ⟨z0, z1, z2, z3, z4⟩ := eBlk_cells hZ
        have zf := eBlk_free hZ
        unfold zeroE at z0 z1 z2 z3 z4
        have n5 : ¬ (w.heap.size = rb) := fun e => by
          have := hA.box
          rw [← e, hZ] at this
          cases this
        have n6 : ¬ (rb = w.heap.size) := fun e => n5 e.symm
        have HFN := Lib.hid (fun W k => HST.out w2 W hA hZ hK k)
        clear hA hZ hK hb2 c0 c1 c2 c3 cf
        go_wp2
        refine bodyPost_ret (v := .tuple #[.agg #[.int .i64 0, .string ⟨#[]⟩, .int .i64 0, .int .i64 0, .bool false], .bool false, .int .i64 0]) ?_ rfl ?_
        · rw [results_cell_tmp2 rfl]
          go_simp
        · exact HFN.out _ ((Fr.refl _ _).set5 (fun _ => by simp) _ _ _ _ _)
      | some b =>
        obtain ⟨out, hout⟩ : ∃ out, atR (ks1.map Kl.rl) b = out := ⟨_, rfl⟩
        obtain ⟨hbn, y', hy', hyd, _⟩ := (show _ ∧ _ from by have h := bestTo_spec (ks1.map Kl.rl) (ks1.map Kl.rl).length; rw [hbt] at h; exact h)
        rw [hll] at hbn
        obtain ⟨y, hy⟩ : ∃ y, ks1[b]? = some y := ⟨_, List.getElem?_eq_getElem (by rw [hA.len]; exact hbn)⟩
        have hyy : y.rl = y' := by
          rw [List.getElem?_map, hy] at hy'
          exact Option.some.inj hy'
        have hyo : y.rl.top = out := by rw [← hout, atR_eq hy', hyy]
        have hyd' : y.dn = false := by rw [← hyy] at hyd; exact hyd
        rcases Classical.em (Dup (ks1.map Kl.rl) out) with hd | hd
        · obtain ⟨m', hs', hR⟩ := rn_dup hsim rfl rfl hgo hlf' hbt (by rw [hout]; exact hd)
          have hlr : leastRes (ks1.map Kl.rl) = ((b : Int), 51) := by unfold leastRes; rw [hbt]; simp only; rw [hout, if_pos hd]
          rw [hlr] at hLE
          have HLE := Lib.hid hLE
          have HST0 := Lib.hid (fun wr W (hA2 : RmAt wr B rb p n c bottom ks1 true 51) hZ2 hK2 k => RNPost.stop (wr := wr) (W := W) HB.out hA2 hs' hR hZ2 hK2 k)
          clear hA hsim hgo hlf hlf' hZ hkp hmb hstn hstk hLE hbt hs' hR hlr hll hd hout hbn hy hy' hyd hyy hyo hyd'
          go_wp2_with fail
          refine HLE.out.mono ?_
          rintro e w2 ⟨rfl, hb2⟩
          obtain ⟨hA0, hZ0, hK0⟩ := HSK1.out _ hb2
          obtain ⟨hA, hK⟩ := hA0.setB 51
          have n5 : ¬ (w.heap.size = rb) := fun e => by
            have := hA0.box
            rw [← e, hZ0] at this
            cases this
          have n6 : ¬ (rb = w.heap.size) := fun e => n5 e.symm
          have hZ : (w2.setCell ⟨rb, 3, none⟩ (.int .i64 51)).heap[w.heap.size]? = some (eBlk zeroE) := (Below.heap_setCell w2 ⟨rb, 3, none⟩ _ w.heap.size n5).trans hZ0
          obtain ⟨_, _, _, c3', cf'⟩ := hA0.cells
          have cf3 := cf' 3
          have HST := Lib.hid (fun W k => HST0.out _ W hA hZ (hK0.trans hK) k)
          have hz := eBlk_cells hZ
          have zf' := eBlk_free hZ
          obtain ⟨_, _, _, d3, _⟩ := hA.cells
          have HZZ := Lib.hid (And.intro hz (And.intro zf' d3))
          clear hA0 hZ0 hK0 hA hK hb2 c0 c1 c2 c3 cf cf' hZ hz zf' d3
          go_wp2
          generalize w2.setCell ⟨rb, 3, none⟩ (.int .i64 51) = W3 at HST HZZ ⊢
          obtain ⟨⟨z0, z1, z2, z3, z4⟩, zf, d3⟩ := HZZ.out
          unfold zeroE at z0 z1 z2 z3 z4
          obtain ⟨cd, hcd⟩ : ∃ cd : Int, cd = 51 := ⟨_, rfl⟩
          clear c3' cf3
          rw [← hcd] at d3 HST
          clear hcd
          go_wp2
          go_region
          all_goals
            go_wp2
            refine bodyPost_ret (v := .tuple #[.agg #[.int .i64 0, .string ⟨#[]⟩, .int .i64 0, .int .i64 0, .bool false], .bool false, .int .i64 cd]) ?_ rfl ?_
            · rw [results_cell_tmp2 rfl]
              go_simp
            · exact HST.out _ (Fr.drew ((Fr.refl _ _).set5 (fun _ => by simp) _ _ _ _ _))
        · obtain ⟨RS, hRS⟩ : ∃ RS, (⟨ks1.map Kl.rl, true, 0⟩ : Rmt).sweep out (List.range' 0 n) = RS := ⟨_, rfl⟩
          obtain ⟨m', hs', q1, q2, q3⟩ := rn_after hsim rfl rfl hgo hlf' hbt hout hd hRS
          have hlr : leastRes (ks1.map Kl.rl) = ((b : Int), 0) := by unfold leastRes; rw [hbt]; simp only; rw [hout, if_neg hd]
          rw [hlr] at hLE
          have HLE := Lib.hid hLE
          have HBADR : Hid (∀ (bo : Nat) (bad : Int) W, bad ≠ 0 → SwEnd w B rb p n c bottom out bo RS bad W → RNRel w B rb p n c bottom R f W) := Lib.hid (fun bo bad W hb h => by
            obtain ⟨ks2, k1, k2, k3, k4, k5⟩ := h
            rw [k2] at hs' q1
            exact ⟨m', ks2, bad, k1, hs', q1 hb, fun h => absurd (hs'.bad.symm.trans h) hb, k3, k5⟩)
          have HONR : Hid (∀ (bo : Nat) W, bottom = true → out.d = true → SwEnd w B rb p n c bottom out bo RS 0 W → RNRel w B rb p n c bottom R f W) := Lib.hid (fun bo W hb hd h => by
            obtain ⟨ks2, k1, k2, k3, k4, k5⟩ := h
            rw [k2] at hs' q3
            exact ⟨m', ks2, 0, k1, hs', (q3 rfl hb hd).1, fun _ => (q3 rfl hb hd).2, k3, k5⟩)
          have HSTR : Hid (∀ (bo : Nat) wr W, (bottom = false ∨ out.d = false) → SwEnd w B rb p n c bottom out bo RS 0 wr → Fr wr W [some w.heap.size] → RNPost w B rb p n c bottom R (.returned (.tuple #[out.val, .bool true, .int .i64 0])) W) := Lib.hid (fun bo wr W hb h k => by
            obtain ⟨ks2, k1, k2, k3, k4, k5⟩ := h
            rw [k2] at hs' q2
            exact RNPost.stop HB.out k1 hs' (q2 rfl hb) k3 k5 k)
          have HSWI : Hid (∀ W bo, RmAt W B rb p n c bottom ks1 true 0 → W.heap[w.heap.size]? = some (eBlk zeroE) → W.heap[bo]? = some (eBlk out) → Kp B rT w W → SwRel w B rb p n c bottom out bo RS 0 W) := Lib.hid (fun W bo h1 h2 h3 h4 => ⟨ks1, h1, hRS, fun j y _ hy => hstn j y hy, h2, h3, h4⟩)
          have HAT : Hid (∀ W, Below wo.heap.size wo W → Calls Try.prog 51 #[.pointer (some ⟨rb, 0, none⟩), .int .i64 b] W fun en w' => en = .returned out.val ∧ Below wo.heap.size wo w') := Lib.hid (fun W hW => ((HA.out.below hW).at_calls (Nat.le_trans hBo hW.size) hy (hstk y (List.mem_of_getElem? hy)) hyd' hyo).mono (fun en w' k => ⟨k.1, hW.trans (k.2.mono hW.size)⟩))
          unfold Ent.val at HAT HSTR
          have hb0 : ¬ ((b : Int) < 0) := by omega
          clear hA hsim hgo hlf hlf' hZ hkp hmb hstn hstk hLE hbt hs' hlr hll hd hout hbn hy hy' hyd hyy hyo hyd' hRS q1 q2 q3
          go_wp2_with (first | (go_at_call 50; with_reducible refine HLE.out.mono ?_; rintro e w2 ⟨rfl, hb2⟩; have HB2 := Lib.hid hb2; clear hb2) | (go_at_call 51; with_reducible refine (HAT.out _ HB2.out).mono ?_; rintro e' w3 ⟨rfl, hb3⟩; have HB3 := Lib.hid hb3; clear hb3))
          have hbW : Below wo.heap.size wo (w3.alloc (eBlk out)) := HB3.out.alloc HB3.out.size _
          have hwo : (w3.alloc (eBlk out)).heap[w3.heap.size]? = some (eBlk out) := World.alloc_heap_new w3 _
          have hzA : w3.alloc (eBlk out) = w3.alloc (Obj.cells #[.int .i64 out.v, .string out.c, .int .i64 out.i, .int .i64 out.s, .bool out.d] 24) := rfl
          rw [hzA] at hbW hwo
          generalize w3.alloc (Obj.cells #[.int .i64 out.v, .string out.c, .int .i64 out.i, .int .i64 out.s, .bool out.d] 24) = W4 at hbW hwo ⊢
          generalize w3.heap.size = bo at hwo ⊢
          obtain ⟨hA4, hZ4, hK4⟩ := HSK1.out _ hbW
          have HSW0 := Lib.hid (HSWI.out W4 bo hA4 hZ4 hwo hK4)
          clear hbW hwo hzA hA4 hZ4 hK4 c0 c1 c2 c3 cf
          go_loopw [9] (fun iv wr => ∃ i : Nat, iv = .int .i64 i ∧ i ≤ n ∧ Hid (SwRel w B rb p n c bottom out bo RS i wr)) (fun iv _ => n - (intOf iv).toNat)
          case atStart => exact ⟨0, rfl, Nat.zero_le _, HSW0⟩
          case round =>
            obtain ⟨i, rfl, hi, HSW⟩ := hrel
            have hn1 : n ≤ 1024 := HN1024.out
            obtain ⟨ks2, h1, h2, h3, h4, h5, h6⟩ := HSW.out
            obtain ⟨c0, c1, c2, c3, cf⟩ := h1.cells
            by_cases hlt : i < n
            · obtain ⟨x, hx⟩ : ∃ x, ks2[i]? = some x := ⟨_, List.getElem?_eq_getElem (by rw [h1.len]; exact hlt)⟩
              obtain ⟨g, hpg, _, _, _, _, _, y4⟩ := h1.list hx
              subst hpg
              have i0 : (0 : Int) ≤ (i : Int) := by omega
              have i1 : (i : Int) < (n : Int) := by omega
              have hBw : B ≤ wr.heap.size := Nat.le_trans HB.out h6.size
              obtain ⟨d, hd⟩ : ∃ d, x.dn = d := ⟨_, rfl⟩
              rw [hd] at y4
              have HSK : Hid (∀ W, Below wr.heap.size wr W → W.cell? ⟨rb, 0, none⟩ = some (.slice (some ⟨g, 0, none⟩) n c) ∧ W.cell? ⟨g, i * 5 + 4, none⟩ = some (.bool d) ∧ W.cell? ⟨bo, 0, none⟩ = some (.int .i64 out.v) ∧ W.cell? ⟨bo, 1, none⟩ = some (.string out.c) ∧ W.cell? ⟨bo, 2, none⟩ = some (.int .i64 out.i) ∧ W.cell? ⟨bo, 3, none⟩ = some (.int .i64 out.s) ∧ W.cell? ⟨bo, 4, none⟩ = some (.bool out.d)) := Lib.hid (fun W hW => by
                have k1 := h1.below hW
                obtain ⟨_, e1, _, _, _, _, _, k4⟩ := k1.list hx
                cases e1
                rw [hd] at k4
                obtain ⟨o0, o1, o2, o3, o4⟩ := eBlk_cells ((hW.block _ (Array.getElem?_eq_some_iff.1 h5).1).trans h5)
                exact ⟨k1.cells.1, k4, o0, o1, o2, o3, o4⟩)
              cases d with
              | true =>
                have HNX := Lib.hid (fun W hW => SwRel.skip (W := W) hlt h1 h2 h3 h4 h5 h6 hx (fun k => by rw [show x.rl.dn = true from hd] at k; exact absurd k.1 (by simp)) hW)
                have HD3 : Hid (∀ W, Below wr.heap.size wr W → W.cell? ⟨rb, 3, none⟩ = some (.int .i64 0)) := Lib.hid (fun W hW => (h1.below hW).cells.2.2.2.1)
                clear h1 h2 h3 h4 h5 h6 hx hd c1 c2 c3 cf
                go_wp2
                refine wp_region_held_drew (S := (fun W => W.cell? ⟨rb, 0, none⟩ = some (.slice (some ⟨g, 0, none⟩) n c) ∧ W.cell? ⟨g, i * 5 + 4, none⟩ = some (.bool true) ∧ W.cell? ⟨bo, 0, none⟩ = some (.int .i64 out.v) ∧ W.cell? ⟨bo, 1, none⟩ = some (.string out.c) ∧ W.cell? ⟨bo, 2, none⟩ = some (.int .i64 out.i) ∧ W.cell? ⟨bo, 3, none⟩ = some (.int .i64 out.s) ∧ W.cell? ⟨bo, 4, none⟩ = some (.bool out.d))) (by kernel_rfl) ?_ (fun hHeld => ?_)
                · exact HSK.out _ (Below.refl _ _).drew
                refine wpAnyH_take (i := 0) (oi := { dst := some 61, op := Op.move (Operand.tmp 0), type := 73, pos := "one.go:112", after := #[], guard := none }) (v := ?_) rfl (by kernel_rfl) (by kernel_rfl) (by kernel_rfl) (fun _ _ _ h => h) (Or.inl ⟨by rfl, ?_⟩) (by assumption) ?_
                rotate_left 1
                · intro w hSw
                  (try dsimp only at hSw)
                  go_simp
                  try with_reducible rfl
                (try simp only [Act.put, List.setIfInBounds_toArray, List.set_cons_zero, List.set_cons_succ])
                refine wpAnyH_take (i := 1) (oi := { dst := some 62, op := Op.nilCheck (Operand.tmp 61), type := 0, pos := "one.go:112", after := #[{ on := 0, ground := Ground.data }], guard := none }) (v := ?_) rfl (by kernel_rfl) (by kernel_rfl) (by kernel_rfl) (fun _ _ _ h => h) (Or.inl ⟨by rfl, ?_⟩) (by assumption) ?_
                rotate_left 1
                · intro w hSw
                  (try dsimp only at hSw)
                  go_simp
                  try with_reducible rfl
                (try simp only [Act.put, List.setIfInBounds_toArray, List.set_cons_zero, List.set_cons_succ])
                refine wpAnyH_take (i := 2) (oi := { dst := some 63, op := Op.fieldAddr 78 (Operand.tmp 62) 0, type := 0, pos := "one.go:112", after := #[{ on := 1, ground := Ground.data }], guard := none }) (v := ?_) rfl (by kernel_rfl) (by kernel_rfl) (by kernel_rfl) (fun _ _ _ h => h) (Or.inl ⟨by rfl, ?_⟩) (by assumption) ?_
                rotate_left 1
                · intro w hSw
                  (try dsimp only at hSw)
                  go_simp
                  try with_reducible rfl
                (try simp only [Act.put, List.setIfInBounds_toArray, List.set_cons_zero, List.set_cons_succ])
                refine wpAnyH_take (i := 3) (oi := { dst := some 64, op := Op.load 33 (Operand.tmp 63), type := 33, pos := "one.go:112", after := #[{ on := 2, ground := Ground.data }], guard := none }) (v := ?_) rfl (by kernel_rfl) (by kernel_rfl) (by kernel_rfl) (fun _ _ _ h => h) (Or.inl ⟨by rfl, ?_⟩) (by assumption) ?_
                rotate_left 1
                · intro w hSw
                  (try dsimp only at hSw)
                  go_simp
                  try with_reducible rfl
                (try simp only [Act.put, List.setIfInBounds_toArray, List.set_cons_zero, List.set_cons_succ])
                refine wpAnyH_take (i := 4) (oi := { dst := some 65, op := Op.move (Operand.tmp 9), type := 3, pos := "one.go:112", after := #[], guard := none }) (v := ?_) rfl (by kernel_rfl) (by kernel_rfl) (by kernel_rfl) (fun _ _ _ h => h) (Or.inl ⟨by rfl, ?_⟩) (by assumption) ?_
                rotate_left 1
                · intro w hSw
                  (try dsimp only at hSw)
                  go_simp
                  try with_reducible rfl
                (try simp only [Act.put, List.setIfInBounds_toArray, List.set_cons_zero, List.set_cons_succ])
                refine wpAnyH_take (i := 5) (oi := { dst := some 66, op := Op.indexAddr 33 (Operand.tmp 64) (Operand.tmp 65), type := 0, pos := "one.go:112", after := #[{ on := 3, ground := Ground.data }, { on := 4, ground := Ground.data }], guard := none }) (v := ?_) rfl (by kernel_rfl) (by kernel_rfl) (by kernel_rfl) (fun _ _ _ h => h) (Or.inl ⟨by rfl, ?_⟩) (by assumption) ?_
                rotate_left 1
                · intro w hSw
                  (try dsimp only at hSw)
                  go_simp
                  try with_reducible rfl
                (try simp only [Act.put, List.setIfInBounds_toArray, List.set_cons_zero, List.set_cons_succ])
                refine wpAnyH_take (i := 6) (oi := { dst := some 67, op := Op.fieldAddr 35 (Operand.tmp 66) 4, type := 0, pos := "one.go:112", after := #[{ on := 5, ground := Ground.data }], guard := none }) (v := ?_) rfl (by kernel_rfl) (by kernel_rfl) (by kernel_rfl) (fun _ _ _ h => h) (Or.inl ⟨by rfl, ?_⟩) (by assumption) ?_
                rotate_left 1
                · intro w hSw
                  (try dsimp only at hSw)
                  go_simp
                  try with_reducible rfl
                (try simp only [Act.put, List.setIfInBounds_toArray, List.set_cons_zero, List.set_cons_succ])
                refine wpAnyH_take (i := 7) (oi := { dst := some 68, op := Op.load 4 (Operand.tmp 67), type := 4, pos := "one.go:112", after := #[{ on := 6, ground := Ground.data }], guard := none }) (v := ?_) rfl (by kernel_rfl) (by kernel_rfl) (by kernel_rfl) (fun _ _ _ h => h) (Or.inl ⟨by rfl, ?_⟩) (by assumption) ?_
                rotate_left 1
                · intro w hSw
                  (try dsimp only at hSw)
                  go_simp
                  try with_reducible rfl
                (try simp only [Act.put, List.setIfInBounds_toArray, List.set_cons_zero, List.set_cons_succ])
                refine wpAnyH_take (i := 8) (oi := { dst := some 69, op := Op.unOp UnOp.not 4 (Operand.tmp 68), type := 4, pos := "one.go:112", after := #[{ on := 7, ground := Ground.data }], guard := none }) (v := ?_) rfl (by kernel_rfl) (by kernel_rfl) (by kernel_rfl) (fun _ _ _ h => h) (Or.inl ⟨by rfl, ?_⟩) (by assumption) ?_
                rotate_left 1
                · intro w hSw
                  (try dsimp only at hSw)
                  go_simp
                  try with_reducible rfl
                (try simp only [Act.put, List.setIfInBounds_toArray, List.set_cons_zero, List.set_cons_succ])
                refine wpAnyH_take (i := 9) (oi := { dst := some 70, op := Op.move (Operand.tmp 69), type := 4, pos := "one.go:112", after := #[{ on := 8, ground := Ground.data }], guard := none }) (v := ?_) rfl (by kernel_rfl) (by kernel_rfl) (by kernel_rfl) (fun _ _ _ h => h) (Or.inl ⟨by rfl, ?_⟩) (by assumption) ?_
                rotate_left 1
                · intro w hSw
                  (try dsimp only at hSw)
                  go_simp
                  try with_reducible rfl
                (try simp only [Act.put, List.setIfInBounds_toArray, List.set_cons_zero, List.set_cons_succ])
                refine wpAnyH_take (i := 10) (oi := { dst := some 71, op := Op.move (Operand.tmp 0), type := 73, pos := "one.go:112", after := #[{ on := 9, ground := Ground.guard }], guard := some (9, true) }) (v := undef) rfl (by kernel_rfl) (by kernel_rfl) (by kernel_rfl) (fun _ _ _ h => h) (Or.inr ⟨by rfl, rfl⟩) (by assumption) ?_
                (try simp only [Act.put, List.setIfInBounds_toArray, List.set_cons_zero, List.set_cons_succ])
                refine wpAnyH_take (i := 11) (oi := { dst := some 72, op := Op.move (Operand.tmp 9), type := 3, pos := "one.go:112", after := #[{ on := 9, ground := Ground.guard }], guard := some (9, true) }) (v := undef) rfl (by kernel_rfl) (by kernel_rfl) (by kernel_rfl) (fun _ _ _ h => h) (Or.inr ⟨by rfl, rfl⟩) (by assumption) ?_
                (try simp only [Act.put, List.setIfInBounds_toArray, List.set_cons_zero, List.set_cons_succ])
                refine wpAnyH_take (i := 12) (oi := { dst := some 73, op := Op.call { callee := Callee.value (Operand.func 51), args := #[Operand.tmp 71, Operand.tmp 72], argTypes := #[73, 3] }, type := 24, pos := "one.go:112", after := #[{ on := 10, ground := Ground.data }, { on := 11, ground := Ground.data }, { on := 9, ground := Ground.chain }, { on := 9, ground := Ground.guard }], guard := some (9, true) }) (v := undef) rfl (by kernel_rfl) (by kernel_rfl) (by kernel_rfl) (fun _ _ _ h => h) (Or.inr ⟨by rfl, rfl⟩) (by assumption) ?_
                (try simp only [Act.put, List.setIfInBounds_toArray, List.set_cons_zero, List.set_cons_succ])
                refine wpAnyH_take (i := 13) (oi := { dst := some 74, op := Op.load 24 (Operand.tmp 8), type := 24, pos := "one.go:112", after := #[{ on := 9, ground := Ground.guard }], guard := some (9, true) }) (v := undef) rfl (by kernel_rfl) (by kernel_rfl) (by kernel_rfl) (fun _ _ _ h => h) (Or.inr ⟨by rfl, rfl⟩) (by assumption) ?_
                (try simp only [Act.put, List.setIfInBounds_toArray, List.set_cons_zero, List.set_cons_succ])
                refine wpAnyH_take (i := 14) (oi := { dst := some 75, op := Op.call { callee := Callee.value (Operand.func 11), args := #[Operand.tmp 73, Operand.tmp 74], argTypes := #[24, 24] }, type := 3, pos := "one.go:112", after := #[{ on := 12, ground := Ground.data }, { on := 13, ground := Ground.data }, { on := 12, ground := Ground.chain }, { on := 9, ground := Ground.guard }], guard := some (9, true) }) (v := undef) rfl (by kernel_rfl) (by kernel_rfl) (by kernel_rfl) (fun _ _ _ h => h) (Or.inr ⟨by rfl, rfl⟩) (by assumption) ?_
                (try simp only [Act.put, List.setIfInBounds_toArray, List.set_cons_zero, List.set_cons_succ])
                refine wpAnyH_take (i := 15) (oi := { dst := some 76, op := Op.binOp BinOp.eql 3 (Operand.tmp 75) (Operand.const (Value.int IntKind.i64 0)) 3, type := 4, pos := "one.go:112", after := #[{ on := 14, ground := Ground.data }, { on := 9, ground := Ground.guard }], guard := some (9, true) }) (v := undef) rfl (by kernel_rfl) (by kernel_rfl) (by kernel_rfl) (fun _ _ _ h => h) (Or.inr ⟨by rfl, rfl⟩) (by assumption) ?_
                (try simp only [Act.put, List.setIfInBounds_toArray, List.set_cons_zero, List.set_cons_succ])
                refine wpAnyH_take (i := 16) (oi := { dst := some 77, op := Op.pick (Operand.tmp 70) (Operand.tmp 76) (Operand.const (Value.bool false)), type := 4, pos := "one.go:112", after := #[{ on := 9, ground := Ground.data }, { on := 15, ground := Ground.data }], guard := none }) (v := ?_) rfl (by kernel_rfl) (by kernel_rfl) (by kernel_rfl) (fun _ _ _ h => h) (Or.inl ⟨by rfl, ?_⟩) (by assumption) ?_
                rotate_left 1
                · intro w hSw
                  (try dsimp only at hSw)
                  go_simp
                  try with_reducible rfl
                (try simp only [Act.put, List.setIfInBounds_toArray, List.set_cons_zero, List.set_cons_succ])
                refine wpAnyH_done (by kernel_rfl) ?_ _
                clear hHeld
                have d3 := HD3.out _ (Below.refl _ _).drew
                go_wp2
                go_roundw
                case rel => exact ⟨i + 1, by go_num, by omega, Lib.hid (HNX.out _ (Below.refl _ _).drew)⟩
                case measure => simp [intOf]; omega
              | false =>
                obtain ⟨ex, hex⟩ : ∃ e, x.rl.top = e := ⟨_, rfl⟩
                have hsx : Stn x.rl := h3 i x.rl (Nat.le_refl _) (by rw [List.getElem?_map, hx]; rfl)
                have HAX : Hid (∀ W, Below wr.heap.size wr W → Calls Try.prog 51 #[.pointer (some ⟨rb, 0, none⟩), .int .i64 i] W fun en w' => en = .returned ex.val ∧ Below wr.heap.size wr w') := Lib.hid (fun W hW => ((h1.below hW).at_calls (Nat.le_trans hBw hW.size) hx hsx hd hex).mono (fun en w' k => ⟨k.1, hW.trans (k.2.mono hW.size)⟩))
                unfold Ent.val at HAX
                obtain ⟨cc, hcc⟩ : ∃ cc, cmpE ex out = cc := ⟨_, rfl⟩
                have HCC : Hid (∀ W, Below wr.heap.size wr W → Calls Try.prog 11 #[ex.val, out.val] W fun en w' => en = .returned (.int .i64 cc) ∧ Below wr.heap.size wr w') := Lib.hid (fun W hW => (RefCompare_calls ex out W).mono (fun en w' k => ⟨by rw [← hcc]; exact k.1, hW.trans (k.2.mono hW.size)⟩))
                unfold Ent.val at HCC
                by_cases hat : eat ex out
                · obtain rfl : cc = 0 := by rw [← hcc]; exact cmpE_eq hat
                  have HASK := Lib.hid (fun W (hW : Below wr.heap.size wr W) => (RAsk_calls (h1.below hW) hlt (Nat.le_trans hBw hW.size) (fun _ => stn_bound (h1.below hW) h3)).mono (fun en w' k => SwRel.ask hlt h2 h3 h4 h5 h6 hx ⟨hd, by rw [hex]; exact hat⟩ hW k))
                  clear h1 h2 h3 h4 h5 h6 hx hd c1 c2 c3 cf hat hcc hsx hex
                  go_wp2
                  refine wp_region_held_drew (S := (fun W => W.cell? ⟨rb, 0, none⟩ = some (.slice (some ⟨g, 0, none⟩) n c) ∧ W.cell? ⟨g, i * 5 + 4, none⟩ = some (.bool false) ∧ W.cell? ⟨bo, 0, none⟩ = some (.int .i64 out.v) ∧ W.cell? ⟨bo, 1, none⟩ = some (.string out.c) ∧ W.cell? ⟨bo, 2, none⟩ = some (.int .i64 out.i) ∧ W.cell? ⟨bo, 3, none⟩ = some (.int .i64 out.s) ∧ W.cell? ⟨bo, 4, none⟩ = some (.bool out.d))) (by kernel_rfl) ?_ (fun hHeld => ?_)
                  · exact HSK.out _ (Below.refl _ _).drew
                  refine wpAnyH_take (i := 0) (oi := { dst := some 61, op := Op.move (Operand.tmp 0), type := 73, pos := "one.go:112", after := #[], guard := none }) (v := ?_) rfl (by kernel_rfl) (by kernel_rfl) (by kernel_rfl) (fun _ _ _ h => h) (Or.inl ⟨by rfl, ?_⟩) (by assumption) ?_
                  rotate_left 1
                  · intro w hSw
                    (try dsimp only at hSw)
                    go_simp
                    try with_reducible rfl
                  (try simp only [Act.put, List.setIfInBounds_toArray, List.set_cons_zero, List.set_cons_succ])
                  refine wpAnyH_take (i := 1) (oi := { dst := some 62, op := Op.nilCheck (Operand.tmp 61), type := 0, pos := "one.go:112", after := #[{ on := 0, ground := Ground.data }], guard := none }) (v := ?_) rfl (by kernel_rfl) (by kernel_rfl) (by kernel_rfl) (fun _ _ _ h => h) (Or.inl ⟨by rfl, ?_⟩) (by assumption) ?_
                  rotate_left 1
                  · intro w hSw
                    (try dsimp only at hSw)
                    go_simp
                    try with_reducible rfl
                  (try simp only [Act.put, List.setIfInBounds_toArray, List.set_cons_zero, List.set_cons_succ])
                  refine wpAnyH_take (i := 2) (oi := { dst := some 63, op := Op.fieldAddr 78 (Operand.tmp 62) 0, type := 0, pos := "one.go:112", after := #[{ on := 1, ground := Ground.data }], guard := none }) (v := ?_) rfl (by kernel_rfl) (by kernel_rfl) (by kernel_rfl) (fun _ _ _ h => h) (Or.inl ⟨by rfl, ?_⟩) (by assumption) ?_
                  rotate_left 1
                  · intro w hSw
                    (try dsimp only at hSw)
                    go_simp
                    try with_reducible rfl
                  (try simp only [Act.put, List.setIfInBounds_toArray, List.set_cons_zero, List.set_cons_succ])
                  refine wpAnyH_take (i := 3) (oi := { dst := some 64, op := Op.load 33 (Operand.tmp 63), type := 33, pos := "one.go:112", after := #[{ on := 2, ground := Ground.data }], guard := none }) (v := ?_) rfl (by kernel_rfl) (by kernel_rfl) (by kernel_rfl) (fun _ _ _ h => h) (Or.inl ⟨by rfl, ?_⟩) (by assumption) ?_
                  rotate_left 1
                  · intro w hSw
                    (try dsimp only at hSw)
                    go_simp
                    try with_reducible rfl
                  (try simp only [Act.put, List.setIfInBounds_toArray, List.set_cons_zero, List.set_cons_succ])
                  refine wpAnyH_take (i := 4) (oi := { dst := some 65, op := Op.move (Operand.tmp 9), type := 3, pos := "one.go:112", after := #[], guard := none }) (v := ?_) rfl (by kernel_rfl) (by kernel_rfl) (by kernel_rfl) (fun _ _ _ h => h) (Or.inl ⟨by rfl, ?_⟩) (by assumption) ?_
                  rotate_left 1
                  · intro w hSw
                    (try dsimp only at hSw)
                    go_simp
                    try with_reducible rfl
                  (try simp only [Act.put, List.setIfInBounds_toArray, List.set_cons_zero, List.set_cons_succ])
                  refine wpAnyH_take (i := 5) (oi := { dst := some 66, op := Op.indexAddr 33 (Operand.tmp 64) (Operand.tmp 65), type := 0, pos := "one.go:112", after := #[{ on := 3, ground := Ground.data }, { on := 4, ground := Ground.data }], guard := none }) (v := ?_) rfl (by kernel_rfl) (by kernel_rfl) (by kernel_rfl) (fun _ _ _ h => h) (Or.inl ⟨by rfl, ?_⟩) (by assumption) ?_
                  rotate_left 1
                  · intro w hSw
                    (try dsimp only at hSw)
                    go_simp
                    try with_reducible rfl
                  (try simp only [Act.put, List.setIfInBounds_toArray, List.set_cons_zero, List.set_cons_succ])
                  refine wpAnyH_take (i := 6) (oi := { dst := some 67, op := Op.fieldAddr 35 (Operand.tmp 66) 4, type := 0, pos := "one.go:112", after := #[{ on := 5, ground := Ground.data }], guard := none }) (v := ?_) rfl (by kernel_rfl) (by kernel_rfl) (by kernel_rfl) (fun _ _ _ h => h) (Or.inl ⟨by rfl, ?_⟩) (by assumption) ?_
                  rotate_left 1
                  · intro w hSw
                    (try dsimp only at hSw)
                    go_simp
                    try with_reducible rfl
                  (try simp only [Act.put, List.setIfInBounds_toArray, List.set_cons_zero, List.set_cons_succ])
                  refine wpAnyH_take (i := 7) (oi := { dst := some 68, op := Op.load 4 (Operand.tmp 67), type := 4, pos := "one.go:112", after := #[{ on := 6, ground := Ground.data }], guard := none }) (v := ?_) rfl (by kernel_rfl) (by kernel_rfl) (by kernel_rfl) (fun _ _ _ h => h) (Or.inl ⟨by rfl, ?_⟩) (by assumption) ?_
                  rotate_left 1
                  · intro w hSw
                    (try dsimp only at hSw)
                    go_simp
                    try with_reducible rfl
                  (try simp only [Act.put, List.setIfInBounds_toArray, List.set_cons_zero, List.set_cons_succ])
                  refine wpAnyH_take (i := 8) (oi := { dst := some 69, op := Op.unOp UnOp.not 4 (Operand.tmp 68), type := 4, pos := "one.go:112", after := #[{ on := 7, ground := Ground.data }], guard := none }) (v := ?_) rfl (by kernel_rfl) (by kernel_rfl) (by kernel_rfl) (fun _ _ _ h => h) (Or.inl ⟨by rfl, ?_⟩) (by assumption) ?_
                  rotate_left 1
                  · intro w hSw
                    (try dsimp only at hSw)
                    go_simp
                    try with_reducible rfl
                  (try simp only [Act.put, List.setIfInBounds_toArray, List.set_cons_zero, List.set_cons_succ])
                  refine wpAnyH_take (i := 9) (oi := { dst := some 70, op := Op.move (Operand.tmp 69), type := 4, pos := "one.go:112", after := #[{ on := 8, ground := Ground.data }], guard := none }) (v := ?_) rfl (by kernel_rfl) (by kernel_rfl) (by kernel_rfl) (fun _ _ _ h => h) (Or.inl ⟨by rfl, ?_⟩) (by assumption) ?_
                  rotate_left 1
                  · intro w hSw
                    (try dsimp only at hSw)
                    go_simp
                    try with_reducible rfl
                  (try simp only [Act.put, List.setIfInBounds_toArray, List.set_cons_zero, List.set_cons_succ])
                  refine wpAnyH_take (i := 10) (oi := { dst := some 71, op := Op.move (Operand.tmp 0), type := 73, pos := "one.go:112", after := #[{ on := 9, ground := Ground.guard }], guard := some (9, true) }) (v := ?_) rfl (by kernel_rfl) (by kernel_rfl) (by kernel_rfl) (fun _ _ _ h => h) (Or.inl ⟨by rfl, ?_⟩) (by assumption) ?_
                  rotate_left 1
                  · intro w hSw
                    (try dsimp only at hSw)
                    go_simp
                    try with_reducible rfl
                  (try simp only [Act.put, List.setIfInBounds_toArray, List.set_cons_zero, List.set_cons_succ])
                  refine wpAnyH_take (i := 11) (oi := { dst := some 72, op := Op.move (Operand.tmp 9), type := 3, pos := "one.go:112", after := #[{ on := 9, ground := Ground.guard }], guard := some (9, true) }) (v := ?_) rfl (by kernel_rfl) (by kernel_rfl) (by kernel_rfl) (fun _ _ _ h => h) (Or.inl ⟨by rfl, ?_⟩) (by assumption) ?_
                  rotate_left 1
                  · intro w hSw
                    (try dsimp only at hSw)
                    go_simp
                    try with_reducible rfl
                  (try simp only [Act.put, List.setIfInBounds_toArray, List.set_cons_zero, List.set_cons_succ])
                  refine wpAnyH_take (i := 13) (oi := { dst := some 74, op := Op.load 24 (Operand.tmp 8), type := 24, pos := "one.go:112", after := #[{ on := 9, ground := Ground.guard }], guard := some (9, true) }) (v := ?_) rfl (by kernel_rfl) (by kernel_rfl) (by kernel_rfl) (fun _ _ _ h => h) (Or.inl ⟨by rfl, ?_⟩) (by assumption) ?_
                  rotate_left 1
                  · intro w hSw
                    (try dsimp only at hSw)
                    go_simp
                    try with_reducible rfl
                  (try simp only [Act.put, List.setIfInBounds_toArray, List.set_cons_zero, List.set_cons_succ])
                  refine wpAnyH_ready (rs := [12]) (by kernel_rfl) (by simp) ?_
                  refine AllReadyH.cons (o := { dst := some 73, op := Op.call { callee := Callee.value (Operand.func 51), args := #[Operand.tmp 71, Operand.tmp 72], argTypes := #[73, 3] }, type := 24, pos := "one.go:112", after := #[{ on := 10, ground := Ground.data }, { on := 11, ground := Ground.data }, { on := 9, ground := Ground.chain }, { on := 9, ground := Ground.guard }], guard := some (9, true) }) rfl (fun K hK => ?_) ?_
                  rotate_left 1
                  · exact AllReadyH.nil
                  go_simp
                  go_at_call 51; refine (HAX.out _ (Below.refl _ _).drew).mono ?_; rintro e' w6 ⟨rfl, hb6⟩; have HB6 := Lib.hid hb6; clear hb6
                  refine hK.out _ _ ?_ (fun hHeld12 => ?_)
                  · exact HSK.out _ HB6.out
                  clear hK K
                  (try simp only [Act.put, List.setIfInBounds_toArray, List.set_cons_zero, List.set_cons_succ])
                  refine wpAnyH_ready (rs := [14]) (by kernel_rfl) (by simp) ?_
                  refine AllReadyH.cons (o := { dst := some 75, op := Op.call { callee := Callee.value (Operand.func 11), args := #[Operand.tmp 73, Operand.tmp 74], argTypes := #[24, 24] }, type := 3, pos := "one.go:112", after := #[{ on := 12, ground := Ground.data }, { on := 13, ground := Ground.data }, { on := 12, ground := Ground.chain }, { on := 9, ground := Ground.guard }], guard := some (9, true) }) rfl (fun K hK => ?_) ?_
                  rotate_left 1
                  · exact AllReadyH.nil
                  go_simp
                  go_at_call 11; refine (HCC.out _ HB6.out).mono ?_; rintro e' w7 ⟨rfl, hb7⟩; have HB7 := Lib.hid hb7; clear hb7
                  refine hK.out _ _ ?_ (fun hHeld14 => ?_)
                  · exact HSK.out _ HB7.out
                  clear hK K
                  (try simp only [Act.put, List.setIfInBounds_toArray, List.set_cons_zero, List.set_cons_succ])
                  refine wpAnyH_take (i := 15) (oi := { dst := some 76, op := Op.binOp BinOp.eql 3 (Operand.tmp 75) (Operand.const (Value.int IntKind.i64 0)) 3, type := 4, pos := "one.go:112", after := #[{ on := 14, ground := Ground.data }, { on := 9, ground := Ground.guard }], guard := some (9, true) }) (v := ?_) rfl (by kernel_rfl) (by kernel_rfl) (by kernel_rfl) (fun _ _ _ h => h) (Or.inl ⟨by rfl, ?_⟩) (by assumption) ?_
                  rotate_left 1
                  · intro w hSw
                    (try dsimp only at hSw)
                    go_simp
                    try with_reducible rfl
                  (try simp only [Act.put, List.setIfInBounds_toArray, List.set_cons_zero, List.set_cons_succ])
                  refine wpAnyH_take (i := 16) (oi := { dst := some 77, op := Op.pick (Operand.tmp 70) (Operand.tmp 76) (Operand.const (Value.bool false)), type := 4, pos := "one.go:112", after := #[{ on := 9, ground := Ground.data }, { on := 15, ground := Ground.data }], guard := none }) (v := ?_) rfl (by kernel_rfl) (by kernel_rfl) (by kernel_rfl) (fun _ _ _ h => h) (Or.inl ⟨by rfl, ?_⟩) (by assumption) ?_
                  rotate_left 1
                  · intro w hSw
                    (try dsimp only at hSw)
                    go_simp
                    try with_reducible rfl
                  (try simp only [Act.put, List.setIfInBounds_toArray, List.set_cons_zero, List.set_cons_succ])
                  refine wpAnyH_done (by kernel_rfl) ?_ _
                  clear hHeld hHeld12 hHeld14
                  go_wp2_with fail
                  refine (HASK.out _ HB7.out).mono ?_
                  rintro e' w8 ⟨rfl, bad8, hor, ks8, hA8⟩
                  have d3 := hA8.cells.2.2.2.1
                  clear hA8
                  rcases hor with ⟨hz8, hor⟩ | ⟨hz8, hor⟩
                  · subst hz8
                    have HOR := Lib.hid hor
                    clear hor
                    go_wp2
                    go_roundw
                    case rel => exact ⟨i + 1, by go_num, by omega, HOR⟩
                    case measure => simp [intOf]; omega
                  · have HOR := Lib.hid (HBADR.out bo bad8 w8 hz8 hor)
                    have hne : (bad8 == 0) = false := by rw [beq_eq_false_iff_ne]; exact hz8
                    clear hor hz8
                    go_wp2
                    go_roundg f
                    case measure => omega
                    case rel => exact HOR.out
                · have hcb : (cc == 0) = false := by
                    rw [beq_eq_false_iff_ne, ← hcc]
                    exact fun k => hat (cmpE_zero.1 k)
                  have HNX := Lib.hid (fun W hW => SwRel.skip (W := W) hlt h1 h2 h3 h4 h5 h6 hx (fun k => hat (by rw [← hex]; exact k.2)) hW)
                  have HD3 : Hid (∀ W, Below wr.heap.size wr W → W.cell? ⟨rb, 3, none⟩ = some (.int .i64 0)) := Lib.hid (fun W hW => (h1.below hW).cells.2.2.2.1)
                  clear h1 h2 h3 h4 h5 h6 hx hd c1 c2 c3 cf hat hcc hsx hex
                  go_wp2
                  refine wp_region_held_drew (S := (fun W => W.cell? ⟨rb, 0, none⟩ = some (.slice (some ⟨g, 0, none⟩) n c) ∧ W.cell? ⟨g, i * 5 + 4, none⟩ = some (.bool false) ∧ W.cell? ⟨bo, 0, none⟩ = some (.int .i64 out.v) ∧ W.cell? ⟨bo, 1, none⟩ = some (.string out.c) ∧ W.cell? ⟨bo, 2, none⟩ = some (.int .i64 out.i) ∧ W.cell? ⟨bo, 3, none⟩ = some (.int .i64 out.s) ∧ W.cell? ⟨bo, 4, none⟩ = some (.bool out.d))) (by kernel_rfl) ?_ (fun hHeld => ?_)
                  · exact HSK.out _ (Below.refl _ _).drew
                  refine wpAnyH_take (i := 0) (oi := { dst := some 61, op := Op.move (Operand.tmp 0), type := 73, pos := "one.go:112", after := #[], guard := none }) (v := ?_) rfl (by kernel_rfl) (by kernel_rfl) (by kernel_rfl) (fun _ _ _ h => h) (Or.inl ⟨by rfl, ?_⟩) (by assumption) ?_
                  rotate_left 1
                  · intro w hSw
                    (try dsimp only at hSw)
                    go_simp
                    try with_reducible rfl
                  (try simp only [Act.put, List.setIfInBounds_toArray, List.set_cons_zero, List.set_cons_succ])
                  refine wpAnyH_take (i := 1) (oi := { dst := some 62, op := Op.nilCheck (Operand.tmp 61), type := 0, pos := "one.go:112", after := #[{ on := 0, ground := Ground.data }], guard := none }) (v := ?_) rfl (by kernel_rfl) (by kernel_rfl) (by kernel_rfl) (fun _ _ _ h => h) (Or.inl ⟨by rfl, ?_⟩) (by assumption) ?_
                  rotate_left 1
                  · intro w hSw
                    (try dsimp only at hSw)
                    go_simp
                    try with_reducible rfl
                  (try simp only [Act.put, List.setIfInBounds_toArray, List.set_cons_zero, List.set_cons_succ])
                  refine wpAnyH_take (i := 2) (oi := { dst := some 63, op := Op.fieldAddr 78 (Operand.tmp 62) 0, type := 0, pos := "one.go:112", after := #[{ on := 1, ground := Ground.data }], guard := none }) (v := ?_) rfl (by kernel_rfl) (by kernel_rfl) (by kernel_rfl) (fun _ _ _ h => h) (Or.inl ⟨by rfl, ?_⟩) (by assumption) ?_
                  rotate_left 1
                  · intro w hSw
                    (try dsimp only at hSw)
                    go_simp
                    try with_reducible rfl
                  (try simp only [Act.put, List.setIfInBounds_toArray, List.set_cons_zero, List.set_cons_succ])
                  refine wpAnyH_take (i := 3) (oi := { dst := some 64, op := Op.load 33 (Operand.tmp 63), type := 33, pos := "one.go:112", after := #[{ on := 2, ground := Ground.data }], guard := none }) (v := ?_) rfl (by kernel_rfl) (by kernel_rfl) (by kernel_rfl) (fun _ _ _ h => h) (Or.inl ⟨by rfl, ?_⟩) (by assumption) ?_
                  rotate_left 1
                  · intro w hSw
                    (try dsimp only at hSw)
                    go_simp
                    try with_reducible rfl
                  (try simp only [Act.put, List.setIfInBounds_toArray, List.set_cons_zero, List.set_cons_succ])
                  refine wpAnyH_take (i := 4) (oi := { dst := some 65, op := Op.move (Operand.tmp 9), type := 3, pos := "one.go:112", after := #[], guard := none }) (v := ?_) rfl (by kernel_rfl) (by kernel_rfl) (by kernel_rfl) (fun _ _ _ h => h) (Or.inl ⟨by rfl, ?_⟩) (by assumption) ?_
                  rotate_left 1
                  · intro w hSw
                    (try dsimp only at hSw)
                    go_simp
                    try with_reducible rfl
                  (try simp only [Act.put, List.setIfInBounds_toArray, List.set_cons_zero, List.set_cons_succ])
                  refine wpAnyH_take (i := 5) (oi := { dst := some 66, op := Op.indexAddr 33 (Operand.tmp 64) (Operand.tmp 65), type := 0, pos := "one.go:112", after := #[{ on := 3, ground := Ground.data }, { on := 4, ground := Ground.data }], guard := none }) (v := ?_) rfl (by kernel_rfl) (by kernel_rfl) (by kernel_rfl) (fun _ _ _ h => h) (Or.inl ⟨by rfl, ?_⟩) (by assumption) ?_
                  rotate_left 1
                  · intro w hSw
                    (try dsimp only at hSw)
                    go_simp
                    try with_reducible rfl
                  (try simp only [Act.put, List.setIfInBounds_toArray, List.set_cons_zero, List.set_cons_succ])
                  refine wpAnyH_take (i := 6) (oi := { dst := some 67, op := Op.fieldAddr 35 (Operand.tmp 66) 4, type := 0, pos := "one.go:112", after := #[{ on := 5, ground := Ground.data }], guard := none }) (v := ?_) rfl (by kernel_rfl) (by kernel_rfl) (by kernel_rfl) (fun _ _ _ h => h) (Or.inl ⟨by rfl, ?_⟩) (by assumption) ?_
                  rotate_left 1
                  · intro w hSw
                    (try dsimp only at hSw)
                    go_simp
                    try with_reducible rfl
                  (try simp only [Act.put, List.setIfInBounds_toArray, List.set_cons_zero, List.set_cons_succ])
                  refine wpAnyH_take (i := 7) (oi := { dst := some 68, op := Op.load 4 (Operand.tmp 67), type := 4, pos := "one.go:112", after := #[{ on := 6, ground := Ground.data }], guard := none }) (v := ?_) rfl (by kernel_rfl) (by kernel_rfl) (by kernel_rfl) (fun _ _ _ h => h) (Or.inl ⟨by rfl, ?_⟩) (by assumption) ?_
                  rotate_left 1
                  · intro w hSw
                    (try dsimp only at hSw)
                    go_simp
                    try with_reducible rfl
                  (try simp only [Act.put, List.setIfInBounds_toArray, List.set_cons_zero, List.set_cons_succ])
                  refine wpAnyH_take (i := 8) (oi := { dst := some 69, op := Op.unOp UnOp.not 4 (Operand.tmp 68), type := 4, pos := "one.go:112", after := #[{ on := 7, ground := Ground.data }], guard := none }) (v := ?_) rfl (by kernel_rfl) (by kernel_rfl) (by kernel_rfl) (fun _ _ _ h => h) (Or.inl ⟨by rfl, ?_⟩) (by assumption) ?_
                  rotate_left 1
                  · intro w hSw
                    (try dsimp only at hSw)
                    go_simp
                    try with_reducible rfl
                  (try simp only [Act.put, List.setIfInBounds_toArray, List.set_cons_zero, List.set_cons_succ])
                  refine wpAnyH_take (i := 9) (oi := { dst := some 70, op := Op.move (Operand.tmp 69), type := 4, pos := "one.go:112", after := #[{ on := 8, ground := Ground.data }], guard := none }) (v := ?_) rfl (by kernel_rfl) (by kernel_rfl) (by kernel_rfl) (fun _ _ _ h => h) (Or.inl ⟨by rfl, ?_⟩) (by assumption) ?_
                  rotate_left 1
                  · intro w hSw
                    (try dsimp only at hSw)
                    go_simp
                    try with_reducible rfl
                  (try simp only [Act.put, List.setIfInBounds_toArray, List.set_cons_zero, List.set_cons_succ])
                  refine wpAnyH_take (i := 10) (oi := { dst := some 71, op := Op.move (Operand.tmp 0), type := 73, pos := "one.go:112", after := #[{ on := 9, ground := Ground.guard }], guard := some (9, true) }) (v := ?_) rfl (by kernel_rfl) (by kernel_rfl) (by kernel_rfl) (fun _ _ _ h => h) (Or.inl ⟨by rfl, ?_⟩) (by assumption) ?_
                  rotate_left 1
                  · intro w hSw
                    (try dsimp only at hSw)
                    go_simp
                    try with_reducible rfl
                  (try simp only [Act.put, List.setIfInBounds_toArray, List.set_cons_zero, List.set_cons_succ])
                  refine wpAnyH_take (i := 11) (oi := { dst := some 72, op := Op.move (Operand.tmp 9), type := 3, pos := "one.go:112", after := #[{ on := 9, ground := Ground.guard }], guard := some (9, true) }) (v := ?_) rfl (by kernel_rfl) (by kernel_rfl) (by kernel_rfl) (fun _ _ _ h => h) (Or.inl ⟨by rfl, ?_⟩) (by assumption) ?_
                  rotate_left 1
                  · intro w hSw
                    (try dsimp only at hSw)
                    go_simp
                    try with_reducible rfl
                  (try simp only [Act.put, List.setIfInBounds_toArray, List.set_cons_zero, List.set_cons_succ])
                  refine wpAnyH_take (i := 13) (oi := { dst := some 74, op := Op.load 24 (Operand.tmp 8), type := 24, pos := "one.go:112", after := #[{ on := 9, ground := Ground.guard }], guard := some (9, true) }) (v := ?_) rfl (by kernel_rfl) (by kernel_rfl) (by kernel_rfl) (fun _ _ _ h => h) (Or.inl ⟨by rfl, ?_⟩) (by assumption) ?_
                  rotate_left 1
                  · intro w hSw
                    (try dsimp only at hSw)
                    go_simp
                    try with_reducible rfl
                  (try simp only [Act.put, List.setIfInBounds_toArray, List.set_cons_zero, List.set_cons_succ])
                  refine wpAnyH_ready (rs := [12]) (by kernel_rfl) (by simp) ?_
                  refine AllReadyH.cons (o := { dst := some 73, op := Op.call { callee := Callee.value (Operand.func 51), args := #[Operand.tmp 71, Operand.tmp 72], argTypes := #[73, 3] }, type := 24, pos := "one.go:112", after := #[{ on := 10, ground := Ground.data }, { on := 11, ground := Ground.data }, { on := 9, ground := Ground.chain }, { on := 9, ground := Ground.guard }], guard := some (9, true) }) rfl (fun K hK => ?_) ?_
                  rotate_left 1
                  · exact AllReadyH.nil
                  go_simp
                  go_at_call 51; refine (HAX.out _ (Below.refl _ _).drew).mono ?_; rintro e' w6 ⟨rfl, hb6⟩; have HB6 := Lib.hid hb6; clear hb6
                  refine hK.out _ _ ?_ (fun hHeld12 => ?_)
                  · exact HSK.out _ HB6.out
                  clear hK K
                  (try simp only [Act.put, List.setIfInBounds_toArray, List.set_cons_zero, List.set_cons_succ])
                  refine wpAnyH_ready (rs := [14]) (by kernel_rfl) (by simp) ?_
                  refine AllReadyH.cons (o := { dst := some 75, op := Op.call { callee := Callee.value (Operand.func 11), args := #[Operand.tmp 73, Operand.tmp 74], argTypes := #[24, 24] }, type := 3, pos := "one.go:112", after := #[{ on := 12, ground := Ground.data }, { on := 13, ground := Ground.data }, { on := 12, ground := Ground.chain }, { on := 9, ground := Ground.guard }], guard := some (9, true) }) rfl (fun K hK => ?_) ?_
                  rotate_left 1
                  · exact AllReadyH.nil
                  go_simp
                  go_at_call 11; refine (HCC.out _ HB6.out).mono ?_; rintro e' w7 ⟨rfl, hb7⟩; have HB7 := Lib.hid hb7; clear hb7
                  refine hK.out _ _ ?_ (fun hHeld14 => ?_)
                  · exact HSK.out _ HB7.out
                  clear hK K
                  (try simp only [Act.put, List.setIfInBounds_toArray, List.set_cons_zero, List.set_cons_succ])
                  refine wpAnyH_take (i := 15) (oi := { dst := some 76, op := Op.binOp BinOp.eql 3 (Operand.tmp 75) (Operand.const (Value.int IntKind.i64 0)) 3, type := 4, pos := "one.go:112", after := #[{ on := 14, ground := Ground.data }, { on := 9, ground := Ground.guard }], guard := some (9, true) }) (v := ?_) rfl (by kernel_rfl) (by kernel_rfl) (by kernel_rfl) (fun _ _ _ h => h) (Or.inl ⟨by rfl, ?_⟩) (by assumption) ?_
                  rotate_left 1
                  · intro w hSw
                    (try dsimp only at hSw)
                    go_simp
                    try with_reducible rfl
                  (try simp only [Act.put, List.setIfInBounds_toArray, List.set_cons_zero, List.set_cons_succ])
                  refine wpAnyH_take (i := 16) (oi := { dst := some 77, op := Op.pick (Operand.tmp 70) (Operand.tmp 76) (Operand.const (Value.bool false)), type := 4, pos := "one.go:112", after := #[{ on := 9, ground := Ground.data }, { on := 15, ground := Ground.data }], guard := none }) (v := ?_) rfl (by kernel_rfl) (by kernel_rfl) (by kernel_rfl) (fun _ _ _ h => h) (Or.inl ⟨by rfl, ?_⟩) (by assumption) ?_
                  rotate_left 1
                  · intro w hSw
                    (try dsimp only at hSw)
                    go_simp
                    try with_reducible rfl
                  (try simp only [Act.put, List.setIfInBounds_toArray, List.set_cons_zero, List.set_cons_succ])
                  refine wpAnyH_done (by kernel_rfl) ?_ _
                  clear hHeld hHeld12 hHeld14
                  have d3 := HD3.out _ HB7.out
                  go_wp2
                  go_roundw
                  case rel => exact ⟨i + 1, by go_num, by omega, Lib.hid (HNX.out _ HB7.out)⟩
                  case measure => simp [intOf]; omega
            · obtain rfl : i = n := by omega
              have hE := HSW.out.ended
              obtain ⟨o0, o1, o2, o3, o4⟩ := eBlk_cells h5
              obtain ⟨z0, z1, z2, z3, z4⟩ := eBlk_cells h4
              have zf := eBlk_free h4
              unfold zeroE at z0 z1 z2 z3 z4
              by_cases hfin : bottom = false ∨ out.d = false
              · have HFN := Lib.hid (fun W k => HSTR.out bo wr W hfin hE k)
                have HE := Lib.hid hfin
                clear hE h1 h2 h3 h4 h5 h6 c2 cf hfin
                cases bottom with
                | false =>
                  go_wp2
                  refine bodyPost_ret (v := .tuple #[.agg #[.int .i64 out.v, .string out.c, .int .i64 out.i, .int .i64 out.s, .bool out.d], .bool true, .int .i64 0]) ?_ rfl ?_
                  · rw [results_cell_tmp2 rfl]
                    go_simp
                  · exact HFN.out _ ((Fr.refl _ _).set5 (fun _ => by simp) _ _ _ _ _)
                | true =>
                  have hd : out.d = false := by simpa using HE.out
                  rw [hd] at o4
                  go_wp2
                  refine bodyPost_ret (v := .tuple #[.agg #[.int .i64 out.v, .string out.c, .int .i64 out.i, .int .i64 out.s, .bool false], .bool true, .int .i64 0]) ?_ rfl ?_
                  · rw [results_cell_tmp2 rfl]
                    go_simp
                  · exact (by have hq := HFN.out _ ((Fr.refl wr _).set5 (g := w.heap.size) (fun _ => by simp) (.int .i64 out.v) (.string out.c) (.int .i64 out.i) (.int .i64 out.s) (.bool false)); rw [hd] at hq; exact hq)
              · have hbt : bottom = true := by cases bottom with | true => rfl | false => exact absurd (.inl rfl) hfin
                have hod : out.d = true := by cases hq : out.d with | true => rfl | false => exact absurd (.inr hq) hfin
                have HOR := Lib.hid (HONR.out bo wr hbt hod hE)
                rw [hod] at o4
                rw [hbt] at c1
                clear hE h1 h2 h3 h4 h5 h6 c2 cf hfin hod
                go_wp2
                go_roundg f
                case measure => omega
                case rel => exact HOR.out
    · have hR : R = ((zeroE, false, bad1), mm) := by
        rw [← hgo, go_bad (show mm.bad ≠ 0 from fun k => hbad (hsim.bad.symm.trans k)), hsim.bad]
      have HST := Lib.hid (fun W k => RNPost.stop (W := W) HB.out hA hsim hR hZ hkp k)
      have hne : (bad1 == 0) = false := by rw [beq_eq_false_iff_ne]; exact hbad
      obtain ⟨z0, z1, z2, z3, z4⟩ := eBlk_cells hZ
      have zf := eBlk_free hZ
      unfold zeroE at z0 z1 z2 z3 z4
      have n5 : ¬ (w.heap.size = rb) := fun e => by
        have := hA.box
        rw [← e, hZ] at this
        cases this
      have n6 : ¬ (rb = w.heap.size) := fun e => n5 e.symm
      generalize bad1 = cd at HST hne c3
      clear hA hsim hgo hlf hZ hkp hbad hR cf c0 c1 c2
      go_wp2
      go_region
      all_goals
        go_wp2
        refine bodyPost_ret (v := .tuple #[.agg #[.int .i64 0, .string ⟨#[]⟩, .int .i64 0, .int .i64 0, .bool false], .bool false, .int .i64 cd]) ?_ rfl ?_
        · rw [results_cell_tmp2 rfl]
          go_simp
        · exact HST.out _ (Fr.drew ((Fr.refl _ _).set5 (fun _ => by simp) _ _ _ _ _))
end Go.Proofs.Ytahdaccmokjgpaa

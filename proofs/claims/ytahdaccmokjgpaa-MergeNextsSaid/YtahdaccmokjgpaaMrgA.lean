/-
  WALK: a merger asks a source.
-/
import Derived.Test.YtahdaccmokjgpaaMrgM
import Derived.Outline
import Derived.Deep.RegionHeld3
import Derived.StillTailTactics
import Derived.WalkSpells
namespace Go.Proofs.Ytahdaccmokjgpaa
open Go.RowKit ArgK
set_option linter.unusedVariables false

set_option maxRecDepth 100000 in
set_option maxHeartbeats 1000000 in
theorem ask_mute {B : Nat} {T : List TypeId} {fs : List Value} {I : World → List Sst → Prop} (hF : FeedLaw B T fs I) {w : World} {mb hb : Nat} {sv v lv : Value} {bottom begun : Bool} {code : Int} {L : List Hdv} {S : List Sst} {i : Nat} {st : Sst}
    (hM : MrgIs w B mb hb sv fs bottom begun code) (hP : PileD w B hb v L) (hH : HeapG abv L) (hI : I w S) (hs : S[i]? = some st) (hm : st.mute = true) (hn : fs.length ≤ 1024) :
    Calls Try.prog 53 #[.pointer (some ⟨mb, 0, none⟩), .int .i64 i, lv] w (AskPost w B T hb v L I S i st) := by
  have hfs := hF.mute hI hs hm
  have hil := (List.getElem?_eq_some_iff.1 hfs).1
  have HE : Hid (∀ W, Below w.heap.size w W → AskPost w B T hb v L I S i st (.returned (.int .i64 0)) W) := Lib.hid (fun W hW => by
    have e : st.asked = (st, 0, none) := by unfold Sst.asked; rw [if_pos hm]
    have hk : Kp B [] w W := Kp.of_below hW
    refine ⟨by rw [e], ?_, v, L, hP.keep (T := []) hk (by simp) (by simp), hH, by rw [e], MK.of_kp (Kp.of_below hW)⟩
    have hset : S.set i st = S := by
      apply List.ext_getElem?
      intro j
      by_cases hj : j = i
      · subst hj
        rw [List.getElem?_set_self (List.getElem?_eq_some_iff.1 hs).1, hs]
      · rw [List.getElem?_set_ne (fun e => hj e.symm)]
    rw [e, hset]
    exact hF.keep hI (Kp.of_below hW))
  obtain ⟨g, c, rfl, hc1⟩ : ∃ g c, sv = .slice (some ⟨g, 0, none⟩) fs.length c ∧ w.cell? ⟨g, i, none⟩ = some .nilFunc := by
    obtain ⟨p, c, rfl, _, _, hr⟩ := own_rd hM.row
    obtain ⟨g, rfl, _, _, hcs, _⟩ := hr (by omega)
    refine ⟨g, c, rfl, ?_⟩
    rw [hcs i (by omega)]
    exact hfs
  obtain ⟨c0, _⟩ := hM.cells
  have i0 : (0 : Int) ≤ (i : Int) := by omega
  have i1 : (i : Int) < (fs.length : Int) := by omega
  obtain ⟨n, hln⟩ : ∃ n, fs.length = n := ⟨_, rfl⟩
  rw [hln] at c0 i1 hn
  clear hfs hM hP hI hs hH hF hln hil
  go_enter Try.func53, Try.ntmps53
  have hq : ∀ W, (binOp .eql 39 .nilFunc .nilFunc).run Try.prog W = .ok (.bool true) W := fun W => by kernel_rfl
  go_wp2
  go_ret
  exact HE.out _ (Below.refl _ _)


theorem eqFunc (f : Nat) (bs cs : Array Value) (W : World) : (binOp .eql 39 (.func (.func f) bs cs) .nilFunc).run Try.prog W = .ok (.bool false) W := by kernel_rfl

set_option maxRecDepth 100000 in
set_option maxHeartbeats 1000000 in
theorem ask_end_walk {w : World} {mb i f b g c n : Nat} {k : Int} {fv lv : Value} {R : World → Prop} {Q : Ending → World → Prop}
    (hsh : fv = .func (.func f) #[] #[.pointer (some ⟨b, 0, none⟩)] ∨ fv = .func (.func f) #[.pointer (some ⟨b, 0, none⟩)] #[]) (hen : ∀ args W, (callFunc f args).run Try.prog W = .ok (.enter f args) W)
    (c0 : w.cell? ⟨mb, 0, none⟩ = some (.slice (some ⟨g, 0, none⟩) n c)) (hc1 : w.cell? ⟨g, i, none⟩ = some fv) (hn : n ≤ 1024) (hi : i < n)
    (HC : Calls Try.prog f #[.pointer (some ⟨b, 0, none⟩)] w fun e w' => e = .returned (.tuple #[zeroE.val, .bool false, .int .i64 k]) ∧ R w')
    (HE : ∀ w1, R w1 → ∀ W, Below w1.heap.size w1 W → Q (.returned (.int .i64 k)) W) :
    Calls Try.prog 53 #[.pointer (some ⟨mb, 0, none⟩), .int .i64 i, lv] w Q := by
  have i0 : (0 : Int) ≤ (i : Int) := by omega
  have i1 : (i : Int) < (n : Int) := by omega
  have hq := eqFunc f
  unfold zeroE Ent.val at HC
  replace HC := Lib.hid HC
  replace HE := Lib.hid HE
  by_cases hk0 : k = 0
  · subst hk0
    rcases hsh with rfl | rfl
    all_goals
      go_enter Try.func53, Try.ntmps53
      go_wp2_with fail
      refine HC.out.mono ?_
      rintro e w1 ⟨rfl, hR⟩
      have HE3 := Lib.hid (HE.out w1 hR)
      clear hR
      go_wp2
      try go_ret
      exact HE3.out _ ((Below.refl _ _).alloc (Nat.le_refl _) _)
  · have hne : (k != 0) = true := by rw [bne_iff_ne]; exact hk0
    rcases hsh with rfl | rfl
    all_goals
      go_enter Try.func53, Try.ntmps53
      go_wp2_with fail
      refine HC.out.mono ?_
      rintro e w1 ⟨rfl, hR⟩
      have HE3 := Lib.hid (HE.out w1 hR)
      clear hR
      go_wp2
      try go_ret
      exact HE3.out _ ((Below.refl _ _).alloc (Nat.le_refl _) _)

set_option maxRecDepth 100000 in
set_option maxHeartbeats 1000000 in
theorem ask_first_walk {w : World} {mb hb i f b g c n : Nat} {x : Ent} {fv : Value} {R P : World → Prop} {Q : Ending → World → Prop}
    (hsh : fv = .func (.func f) #[] #[.pointer (some ⟨b, 0, none⟩)] ∨ fv = .func (.func f) #[.pointer (some ⟨b, 0, none⟩)] #[]) (hen : ∀ args W, (callFunc f args).run Try.prog W = .ok (.enter f args) W)
    (c0 : w.cell? ⟨mb, 0, none⟩ = some (.slice (some ⟨g, 0, none⟩) n c)) (hc1 : w.cell? ⟨g, i, none⟩ = some fv) (hn : n ≤ 1024) (hi : i < n)
    (HC : Calls Try.prog f #[.pointer (some ⟨b, 0, none⟩)] w fun e w' => e = .returned (.tuple #[x.val, .bool true, .int .i64 0]) ∧ R w')
    (HC3 : ∀ w1, R w1 → ∀ o, (w1.alloc o).cell? ⟨mb, 3, none⟩ = some (.iface 82 (.pointer (some ⟨hb, 0, none⟩))))
    (HCP : ∀ w1, R w1 → ∀ W, Below w1.heap.size w1 W → Calls Try.prog 56 #[.iface 82 (.pointer (some ⟨hb, 0, none⟩)), .iface 100 (Hdv.mk x i).val] W fun e w' => e = .returned (.tuple #[]) ∧ P w')
    (HE : ∀ W, P W → Q (.returned (.int .i64 0)) W) :
    Calls Try.prog 53 #[.pointer (some ⟨mb, 0, none⟩), .int .i64 i, .pointer none] w Q := by
  have i0 : (0 : Int) ≤ (i : Int) := by omega
  have i1 : (i : Int) < (n : Int) := by omega
  have hq := eqFunc f
  unfold Ent.val at HC
  unfold Hdv.val at HCP
  replace HC := Lib.hid HC
  replace HE := Lib.hid HE
  replace HC3 := Lib.hid HC3
  replace HCP := Lib.hid HCP
  rcases hsh with rfl | rfl
  all_goals
    go_enter Try.func53, Try.ntmps53
    go_wp2_with fail
    refine HC.out.mono ?_
    rintro e w1 ⟨rfl, hR⟩
    have c3 := HC3.out w1 hR
    have HCC := Lib.hid (HCP.out w1 hR)
    clear hR
    have b0 := World.alloc_heap_new w1 (.cells #[.int .i64 x.v, .string x.c, .int .i64 x.i, .int .i64 x.s, .bool x.d] 24)
    have c3a := c3 (.cells #[.int .i64 x.v, .string x.c, .int .i64 x.i, .int .i64 x.s, .bool x.d] 24)
    have hb0 := (Below.refl w1.heap.size w1).alloc (Nat.le_refl _) (.cells #[.int .i64 x.v, .string x.c, .int .i64 x.i, .int .i64 x.s, .bool x.d] 24)
    have k0 : (w1.alloc (.cells #[.int .i64 x.v, .string x.c, .int .i64 x.i, .int .i64 x.s, .bool x.d] 24)).cell? ⟨w1.heap.size, 0, none⟩ = some (.int .i64 x.v) := by rw [cell_of_row _ _ 0 _ _ _ b0]; rfl
    have k1 : (w1.alloc (.cells #[.int .i64 x.v, .string x.c, .int .i64 x.i, .int .i64 x.s, .bool x.d] 24)).cell? ⟨w1.heap.size, 1, none⟩ = some (.string x.c) := by rw [cell_of_row _ _ 1 _ _ _ b0]; rfl
    have k2 : (w1.alloc (.cells #[.int .i64 x.v, .string x.c, .int .i64 x.i, .int .i64 x.s, .bool x.d] 24)).cell? ⟨w1.heap.size, 2, none⟩ = some (.int .i64 x.i) := by rw [cell_of_row _ _ 2 _ _ _ b0]; rfl
    have k3 : (w1.alloc (.cells #[.int .i64 x.v, .string x.c, .int .i64 x.i, .int .i64 x.s, .bool x.d] 24)).cell? ⟨w1.heap.size, 3, none⟩ = some (.int .i64 x.s) := by rw [cell_of_row _ _ 3 _ _ _ b0]; rfl
    have k4 : (w1.alloc (.cells #[.int .i64 x.v, .string x.c, .int .i64 x.i, .int .i64 x.s, .bool x.d] 24)).cell? ⟨w1.heap.size, 4, none⟩ = some (.bool x.d) := by rw [cell_of_row _ _ 4 _ _ _ b0]; rfl
    clear c3 b0
    go_wp2
    generalize w1.alloc (.cells #[.int .i64 x.v, .string x.c, .int .i64 x.i, .int .i64 x.s, .bool x.d] 24) = wa at c3a hb0 k0 k1 k2 k3 k4 ⊢
    go_quiet (fail)
    go_wp2
    obtain ⟨W, hW⟩ : ∃ W, wa.drewN nq = W := ⟨_, rfl⟩
    rw [hW]
    have c3b : W.cell? ⟨mb, 3, none⟩ = some (.iface 82 (.pointer (some ⟨hb, 0, none⟩))) := by rw [← hW]; exact c3a
    have j0 : W.cell? ⟨w1.heap.size, 0, none⟩ = some (.int .i64 x.v) := by rw [← hW]; exact k0
    have j1 : W.cell? ⟨w1.heap.size, 1, none⟩ = some (.string x.c) := by rw [← hW]; exact k1
    have j2 : W.cell? ⟨w1.heap.size, 2, none⟩ = some (.int .i64 x.i) := by rw [← hW]; exact k2
    have j3 : W.cell? ⟨w1.heap.size, 3, none⟩ = some (.int .i64 x.s) := by rw [← hW]; exact k3
    have j4 : W.cell? ⟨w1.heap.size, 4, none⟩ = some (.bool x.d) := by rw [← hW]; exact k4
    have HB1 := Lib.hid (show Below w1.heap.size w1 W by rw [← hW]; exact below_drewN hb0 _)
    clear hW c3a k0 k1 k2 k3 k4 hb0
    go_still_tail 8, (by kernel_rfl)
    change wpList _ _ _ _ _ W.drew
    clear c3b j0 j1 j2 j3 j4
    go_wp2_with fail
    refine (HCC.out _ HB1.out.drew).mono ?_
    rintro e w2 ⟨rfl, hP⟩
    have HP2 := Lib.hid (HE.out _ hP)
    clear hP
    go_wp2
    try go_ret
    exact HP2.out

set_option maxRecDepth 100000 in
set_option maxHeartbeats 2000000 in
theorem ask_next_walk {w : World} {mb hb i f b g c n lb kk : Nat} {x y : Ent} {fv : Value} {R P : World → Prop} {Q : Ending → World → Prop}
    (hsh : fv = .func (.func f) #[] #[.pointer (some ⟨b, 0, none⟩)] ∨ fv = .func (.func f) #[.pointer (some ⟨b, 0, none⟩)] #[]) (hen : ∀ args W, (callFunc f args).run Try.prog W = .ok (.enter f args) W)
    (c0 : w.cell? ⟨mb, 0, none⟩ = some (.slice (some ⟨g, 0, none⟩) n c)) (hc1 : w.cell? ⟨g, i, none⟩ = some fv) (hn : n ≤ 1024) (hi : i < n)
    (HC : Calls Try.prog f #[.pointer (some ⟨b, 0, none⟩)] w fun e w' => e = .returned (.tuple #[x.val, .bool true, .int .i64 0]) ∧ R w')
    (HC3 : ∀ w1, R w1 → ∀ W, Below w1.heap.size w1 W → W.cell? ⟨mb, 3, none⟩ = some (.iface 82 (.pointer (some ⟨hb, 0, none⟩))))
    (HCL : ∀ w1, R w1 → ∀ W, Below w1.heap.size w1 W → W.heap[lb]? = some (.cells #[.int .i64 y.v, .string y.c, .int .i64 y.i, .int .i64 y.s, .bool y.d, .int .i64 kk] 100 (0, 0)))
    (HCP : eless y x → ∀ w1, R w1 → ∀ W, Below w1.heap.size w1 W → Calls Try.prog 56 #[.iface 82 (.pointer (some ⟨hb, 0, none⟩)), .iface 100 (Hdv.mk x i).val] W fun e w' => e = .returned (.tuple #[]) ∧ P w')
    (HE : eless y x → ∀ W, P W → Q (.returned (.int .i64 0)) W) (HN : ¬ eless y x → ∀ w1, R w1 → ∀ W, Below w1.heap.size w1 W → Q (.returned (.int .i64 50)) W) :
    Calls Try.prog 53 #[.pointer (some ⟨mb, 0, none⟩), .int .i64 i, .pointer (some ⟨lb, 0, none⟩)] w Q := by
  have i0 : (0 : Int) ≤ (i : Int) := by omega
  have i1 : (i : Int) < (n : Int) := by omega
  have hq := eqFunc f
  have HCM : Hid (∀ W : World, Calls Try.prog 10 #[y.val, x.val] W fun e w' => e = .returned (.int .i64 (cmpE y x)) ∧ Below W.heap.size W w') := Lib.hid (fun W => Compare_calls y x W)
  have hb3 := cmpE_bound y x
  have hneg := cmpE_neg (a := y) (b := x)
  unfold Ent.val at HC HCM
  unfold Hdv.val at HCP
  generalize cmpE y x = q at HCM hb3 hneg
  replace HC := Lib.hid HC
  replace HE := Lib.hid HE
  replace HN := Lib.hid HN
  replace HC3 := Lib.hid HC3
  replace HCP := Lib.hid HCP
  replace HCL := Lib.hid HCL
  by_cases hlt : q < 0
  · have HE2 := Lib.hid (HE.out (hneg.1 hlt))
    have HCP2 := Lib.hid (HCP.out (hneg.1 hlt))
    obtain rfl : q = -1 := by omega
    clear HE HN HCP hneg hb3 hlt
    rcases hsh with rfl | rfl
    all_goals
      go_enter Try.func53, Try.ntmps53
      go_wp2_with fail
      refine HC.out.mono ?_
      rintro e w1 ⟨rfl, hR⟩
      have HCC := Lib.hid (HCP2.out w1 hR)
      have HC3B := Lib.hid (HC3.out w1 hR)
      have HCLB := Lib.hid (HCL.out w1 hR)
      clear hR
      have b0 := World.alloc_heap_new w1 (.cells #[.int .i64 x.v, .string x.c, .int .i64 x.i, .int .i64 x.s, .bool x.d] 24)
      have hb0 := (Below.refl w1.heap.size w1).alloc (Nat.le_refl _) (.cells #[.int .i64 x.v, .string x.c, .int .i64 x.i, .int .i64 x.s, .bool x.d] 24)
      go_wp2
      generalize w1.alloc (.cells #[.int .i64 x.v, .string x.c, .int .i64 x.i, .int .i64 x.s, .bool x.d] 24) = wa at b0 hb0 ⊢
      have k0 : wa.cell? ⟨w1.heap.size, 0, none⟩ = some (.int .i64 x.v) := by rw [cell_of_row _ _ 0 _ _ _ b0]; rfl
      have k1 : wa.cell? ⟨w1.heap.size, 1, none⟩ = some (.string x.c) := by rw [cell_of_row _ _ 1 _ _ _ b0]; rfl
      have k2 : wa.cell? ⟨w1.heap.size, 2, none⟩ = some (.int .i64 x.i) := by rw [cell_of_row _ _ 2 _ _ _ b0]; rfl
      have k3 : wa.cell? ⟨w1.heap.size, 3, none⟩ = some (.int .i64 x.s) := by rw [cell_of_row _ _ 3 _ _ _ b0]; rfl
      have k4 : wa.cell? ⟨w1.heap.size, 4, none⟩ = some (.bool x.d) := by rw [cell_of_row _ _ 4 _ _ _ b0]; rfl
      have lb0 := HCLB.out wa hb0
      have l0 : wa.cell? ⟨lb, 0, none⟩ = some (.int .i64 y.v) := by rw [cell_of_row _ _ 0 _ _ _ lb0]; rfl
      have l1 : wa.cell? ⟨lb, 1, none⟩ = some (.string y.c) := by rw [cell_of_row _ _ 1 _ _ _ lb0]; rfl
      have l2 : wa.cell? ⟨lb, 2, none⟩ = some (.int .i64 y.i) := by rw [cell_of_row _ _ 2 _ _ _ lb0]; rfl
      have l3 : wa.cell? ⟨lb, 3, none⟩ = some (.int .i64 y.s) := by rw [cell_of_row _ _ 3 _ _ _ lb0]; rfl
      have l4 : wa.cell? ⟨lb, 4, none⟩ = some (.bool y.d) := by rw [cell_of_row _ _ 4 _ _ _ lb0]; rfl
      have HB0 := Lib.hid b0
      have HBB := Lib.hid hb0
      clear b0 hb0 lb0
      go_still_tail 7, (by kernel_rfl)
      change wpList _ _ _ _ _ wa.drew
      clear k0 k1 k2 k3 k4 l0 l1 l2 l3 l4
      go_wp2_with fail
      refine (HCM.out _).mono ?_
      rintro e w2 ⟨rfl, hb2⟩
      have hb3 : Below wa.heap.size wa w2 := below_of_drew hb2
      have b2 := (hb3.block w1.heap.size (Array.getElem?_eq_some_iff.1 HB0.out).1).trans HB0.out
      have j0 : w2.cell? ⟨w1.heap.size, 0, none⟩ = some (.int .i64 x.v) := by rw [cell_of_row _ _ 0 _ _ _ b2]; rfl
      have j1 : w2.cell? ⟨w1.heap.size, 1, none⟩ = some (.string x.c) := by rw [cell_of_row _ _ 1 _ _ _ b2]; rfl
      have j2 : w2.cell? ⟨w1.heap.size, 2, none⟩ = some (.int .i64 x.i) := by rw [cell_of_row _ _ 2 _ _ _ b2]; rfl
      have j3 : w2.cell? ⟨w1.heap.size, 3, none⟩ = some (.int .i64 x.s) := by rw [cell_of_row _ _ 3 _ _ _ b2]; rfl
      have j4 : w2.cell? ⟨w1.heap.size, 4, none⟩ = some (.bool x.d) := by rw [cell_of_row _ _ 4 _ _ _ b2]; rfl
      have hB2 : Below w1.heap.size w1 w2 := HBB.out.trans (hb3.mono HBB.out.size)
      have c3 := HC3B.out w2 hB2
      have HB2 := Lib.hid hB2
      clear b2 hB2 hb2 hb3
      go_wp2
      go_still_tail 8, (by kernel_rfl)
      change wpList _ _ _ _ _ w2.drew
      clear c3 j0 j1 j2 j3 j4
      go_wp2_with fail
      refine (HCC.out _ HB2.out.drew).mono ?_
      rintro e w3 ⟨rfl, hP⟩
      have HP2 := Lib.hid (HE2.out _ hP)
      clear hP
      go_wp2
      try go_ret
      exact HP2.out
  · have HN2 := Lib.hid (HN.out (fun h => hlt (hneg.2 h)))
    have hge : decide (0 ≤ q) = true := by simp; omega
    clear HE HN HCP hneg hb3 hlt HC3
    rcases hsh with rfl | rfl
    all_goals
      go_enter Try.func53, Try.ntmps53
      go_wp2_with fail
      refine HC.out.mono ?_
      rintro e w1 ⟨rfl, hR⟩
      have HN3 := Lib.hid (HN2.out w1 hR)
      have HCLB := Lib.hid (HCL.out w1 hR)
      clear hR
      have b0 := World.alloc_heap_new w1 (.cells #[.int .i64 x.v, .string x.c, .int .i64 x.i, .int .i64 x.s, .bool x.d] 24)
      have hb0 := (Below.refl w1.heap.size w1).alloc (Nat.le_refl _) (.cells #[.int .i64 x.v, .string x.c, .int .i64 x.i, .int .i64 x.s, .bool x.d] 24)
      go_wp2
      generalize w1.alloc (.cells #[.int .i64 x.v, .string x.c, .int .i64 x.i, .int .i64 x.s, .bool x.d] 24) = wa at b0 hb0 ⊢
      have k0 : wa.cell? ⟨w1.heap.size, 0, none⟩ = some (.int .i64 x.v) := by rw [cell_of_row _ _ 0 _ _ _ b0]; rfl
      have k1 : wa.cell? ⟨w1.heap.size, 1, none⟩ = some (.string x.c) := by rw [cell_of_row _ _ 1 _ _ _ b0]; rfl
      have k2 : wa.cell? ⟨w1.heap.size, 2, none⟩ = some (.int .i64 x.i) := by rw [cell_of_row _ _ 2 _ _ _ b0]; rfl
      have k3 : wa.cell? ⟨w1.heap.size, 3, none⟩ = some (.int .i64 x.s) := by rw [cell_of_row _ _ 3 _ _ _ b0]; rfl
      have k4 : wa.cell? ⟨w1.heap.size, 4, none⟩ = some (.bool x.d) := by rw [cell_of_row _ _ 4 _ _ _ b0]; rfl
      have lb0 := HCLB.out wa hb0
      have l0 : wa.cell? ⟨lb, 0, none⟩ = some (.int .i64 y.v) := by rw [cell_of_row _ _ 0 _ _ _ lb0]; rfl
      have l1 : wa.cell? ⟨lb, 1, none⟩ = some (.string y.c) := by rw [cell_of_row _ _ 1 _ _ _ lb0]; rfl
      have l2 : wa.cell? ⟨lb, 2, none⟩ = some (.int .i64 y.i) := by rw [cell_of_row _ _ 2 _ _ _ lb0]; rfl
      have l3 : wa.cell? ⟨lb, 3, none⟩ = some (.int .i64 y.s) := by rw [cell_of_row _ _ 3 _ _ _ lb0]; rfl
      have l4 : wa.cell? ⟨lb, 4, none⟩ = some (.bool y.d) := by rw [cell_of_row _ _ 4 _ _ _ lb0]; rfl
      have HB0 := Lib.hid b0
      have HBB := Lib.hid hb0
      clear b0 hb0 lb0
      go_still_tail 7, (by kernel_rfl)
      change wpList _ _ _ _ _ wa.drew
      clear k0 k1 k2 k3 k4 l0 l1 l2 l3 l4
      go_wp2_with fail
      refine (HCM.out _).mono ?_
      rintro e w2 ⟨rfl, hb2⟩
      have hB2 : Below w1.heap.size w1 w2 := HBB.out.trans ((below_of_drew hb2).mono HBB.out.size)
      have HP2 := Lib.hid (HN3.out _ hB2)
      clear hb2 hB2
      go_wp2
      try go_ret
      exact HP2.out

end Go.Proofs.Ytahdaccmokjgpaa

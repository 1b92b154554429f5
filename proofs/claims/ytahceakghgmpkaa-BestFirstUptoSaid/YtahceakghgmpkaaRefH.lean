/-
  WALKS: the document's tops and balls. (Printed by refhgen.py.)
-/
import Derived.Test.YtahceakghgmpkaaLawB
import Derived.StillTailTactics
import Derived.Deep.RegionHeld3
import Derived.Laws.AppendOwnNone
namespace Go.Proofs.Ytahceakghgmpkaa
open Go.RowKit
set_option linter.unusedVariables false

set_option maxRecDepth 100000 in
theorem rless_calls (a b : Hv) (w : World) : Calls Try.prog 47 #[a.val, b.val] w fun e w' => e = .returned (.bool (decide (hless a b))) ∧ Gr w w' := by
  have hG : Gr w ((w.alloc (.cells #[.int .i64 a.d, .int .i64 a.i, .string a.c] 34)).alloc (.cells #[.int .i64 b.d, .int .i64 b.i, .string b.c] 34)) := ((Gr.refl w).alloc _).alloc _
  obtain ⟨W, hW, hbl, hx, hy⟩ := box2 w #[.int .i64 a.d, .int .i64 a.i, .string a.c] #[.int .i64 b.d, .int .i64 b.i, .string b.c] 34 34
  have x0 : W.cell? ⟨w.heap.size, 0, none⟩ = some (.int .i64 a.d) := hx 0
  have x1 : W.cell? ⟨w.heap.size, 1, none⟩ = some (.int .i64 a.i) := hx 1
  have x2 : W.cell? ⟨w.heap.size, 2, none⟩ = some (.string a.c) := hx 2
  have y0 : W.cell? ⟨w.heap.size + 1, 0, none⟩ = some (.int .i64 b.d) := hy 0
  have y1 : W.cell? ⟨w.heap.size + 1, 1, none⟩ = some (.int .i64 b.i) := hy 1
  have y2 : W.cell? ⟨w.heap.size + 1, 2, none⟩ = some (.string b.c) := hy 2
  have HW : Hid (((w.alloc (.cells #[.int .i64 a.d, .int .i64 a.i, .string a.c] 34)).alloc (.cells #[.int .i64 b.d, .int .i64 b.i, .string b.c] 34)) = W) := Lib.hid hW
  rw [hW] at hG
  simp only [Hv.val]
  have hs : sless a.c b.c = Op.bytesLess a.c.toList b.c.toList := rfl
  clear hbl hx hy hW
  by_cases h1 : a.d = b.d
  · by_cases h2 : a.i = b.i
    · have e : decide (hless a b) = Op.bytesLess a.c.toList b.c.toList := by
        rw [← hs]; unfold hless; rw [Bool.eq_iff_iff]; simp [h1, h2]
      rw [e]
      have q1 : (a.d != b.d) = false := by simp [h1]
      have q2 : (a.i != b.i) = false := by simp [h2]
      clear h1 h2 e hs
      go_enter Try.func47, Try.ntmps47
      go_upto_region 1 with fail
      rw [HW.out]
      go_wp2
      go_ret
      exact ⟨rfl, hG⟩
    · have e : decide (hless a b) = decide (a.i < b.i) := by
        rw [decide_eq_decide]; unfold hless; simp [h1, h2]
      rw [e]
      have q1 : (a.d != b.d) = false := by simp [h1]
      have q2 : (a.i != b.i) = true := by simp [h2]
      clear h1 h2 e hs
      go_enter Try.func47, Try.ntmps47
      go_upto_region 1 with fail
      rw [HW.out]
      go_wp2
      go_ret
      exact ⟨rfl, hG⟩
  · have e : decide (hless a b) = decide (a.d < b.d) := by
      rw [decide_eq_decide]; unfold hless; simp [h1]
    rw [e]
    have q1 : (a.d != b.d) = true := by simp [h1]
    clear h1 e hs
    go_enter Try.func47, Try.ntmps47
    go_upto_region 1 with fail
    rw [HW.out]
    go_wp2
    go_ret
    exact ⟨rfl, hG⟩

theorem insH_split : ∀ (S : List Hv) (h : Hv) (a : Nat), Ris S → (∀ (j : Nat) (y : Hv), j < a → S[j]? = some y → hless y h) → (∀ y, S[a]? = some y → ¬ hless y h ∧ y ≠ h) → a ≤ S.length → insH S h = S.take a ++ h :: S.drop a
  | [], h, a, _, _, _, ha => by
    have : a = 0 := by simpa using ha
    subst this
    rfl
  | y :: S, h, 0, _, _, h2, _ => by
    have := h2 y rfl
    unfold insH
    rw [if_neg this.1, if_neg this.2]
    rfl
  | y :: S, h, a + 1, hS, h1, h2, ha => by
    unfold insH
    rw [if_pos (h1 0 y (by omega) rfl), List.take_succ_cons, List.drop_succ_cons, List.cons_append]
    congr 1
    exact insH_split S h a (List.pairwise_cons.1 hS).2 (fun j z hj hz => h1 (j + 1) z (by omega) (by simpa using hz)) (fun z hz => h2 z (by simpa using hz)) (by simpa using ha)

/-- What Put answers. -/
def PutR (w : World) (l : Value) (S : List Hv) (h : Hv) (e : Ending) (w' : World) : Prop :=
  ∃ l', e = .returned l' ∧ Below w.heap.size w w' ∧ w'.ownsRow 0 34 3 l' (insH S h).length (encH (insH S h)) ∧ (l'.ownBlock = l.ownBlock ∨ ∀ g, l'.ownBlock = some g → w.heap.size ≤ g)

theorem encH_drop (L : List Hv) (j : Nat) : (encH L).drop (j * 3) = encH (L.drop j) := by
  induction L generalizing j with
  | nil => simp [encH]
  | cons x L ih =>
    cases j with
    | zero => simp [encH]
    | succ j =>
      rw [encH_cons, show (j + 1) * 3 = x.cells.length + j * 3 by simp [Hv.cells]; omega, List.drop_append, List.drop_of_length_le (Nat.le_add_right _ _), Nat.add_sub_cancel_left, ih]
      rfl

theorem encH_one (L : List Hv) : ∀ u ∈ encH L, u.oneCell' = true := by
  intro u hu
  obtain ⟨x, _, hx⟩ := List.mem_flatMap.1 hu
  simp [Hv.cells] at hx
  rcases hx with rfl | rfl | rfl <;> rfl

theorem news_take {W : World} {b : Nat} {e : TypeId} {g n cap : Nat} {S : List Hv} (h : W.ownsRow b e 3 (.slice (some ⟨g, 0, none⟩) n cap) n (encH S)) (a : Nat) : ∀ j u, (encH (S.take a))[j]? = some u → W.cell? ((⟨g, 0, none⟩ : Addr).add j) = some u := by
  intro j u hj
  have hl := h.1
  rw [← encH_take, List.getElem?_take] at hj
  split at hj
  · have hj' := (List.getElem?_eq_some_iff.1 hj).1
    rw [add_zeroH, h.cellAt j (by omega)]; exact hj
  · cases hj

theorem news_drop {W : World} {b : Nat} {e : TypeId} {g n cap : Nat} {S : List Hv} (h : W.ownsRow b e 3 (.slice (some ⟨g, 0, none⟩) n cap) n (encH S)) (a : Nat) : ∀ j u, (encH (S.drop a))[j]? = some u → W.cell? ((⟨g, a * 3, none⟩ : Addr).add j) = some u := by
  intro j u hj
  have hl := h.1
  rw [← encH_drop, List.getElem?_drop] at hj
  have hj' := (List.getElem?_eq_some_iff.1 hj).1
  have e1 : (⟨g, a * 3, none⟩ : Addr).add j = ⟨g, a * 3 + j, none⟩ := by unfold Addr.add; split <;> simp_all
  rw [e1, h.cellAt _ (by omega)]; exact hj

theorem putR_new {w w' : World} {l v' : Value} {S : List Hv} {h : Hv} {a n m B : Nat} (hi : insH S h = S.take a ++ h :: S.drop a) (hn : S.length = n) (ha : a ≤ n) (hm : m = n + 1) (hB : w.heap.size ≤ B) (hb : Below w.heap.size w w') (ho : w'.ownsRow B 34 3 v' m (encH (S.take a) ++ h.cells ++ encH (S.drop a))) : PutR w l S h (.returned v') w' := by
  refine ⟨v', rfl, hb, ?_, .inr (fun g hg => Nat.le_trans hB (ho.lt g hg).1)⟩
  have hl : (insH S h).length = m := by rw [hi, hm, ← hn]; simp; omega
  rw [hl, hi, encH_append, encH_cons, ← List.append_assoc]
  exact own_le ho (Nat.zero_le _)

set_option maxRecDepth 100000 in
set_option maxHeartbeats 4000000 in
theorem Put_calls (l : Value) (S : List Hv) (h : Hv) (hnil : S = [] → l = .slice none 0 0) (hS : Ris S) (hN : (S.length + 1) * 32 ≤ 140737488355328) (w : World) (hl : w.ownsRow 0 34 3 l S.length (encH S)) :
    Calls Try.prog 39 #[l, h.val] w (PutR w l S h) := by
  have hQ1 : Try.prog.eqGuardType Try.prog.depth 34 = false := by kernel_rfl
  obtain ⟨i0, hi0, hz0, hz1, hz2⟩ := info_parts hitinfo
  obtain ⟨n, hn⟩ : ∃ n, S.length = n := ⟨_, rfl⟩
  rw [hn] at hN hl
  obtain ⟨p, cap, rfl, hnc, hcm, hrd⟩ := own_rd hl
  have HG : Gr w (w.alloc (.cells #[.int .i64 h.d, .int .i64 h.i, .string h.c] 34)) := (Gr.refl w).alloc _
  have b0 := World.alloc_heap_new w (.cells #[.int .i64 h.d, .int .i64 h.i, .string h.c] 34)
  have HLw := Lib.hid hl
  have HN := Lib.hid hn
  have HS := Lib.hid hS
  have HNil := Lib.hid hnil
  have HRd := Lib.hid hrd
  have hn63 : n ≤ 4398046511104 := by omega
  clear hl hn hS hnil hrd
  simp only [Hv.val]
  go_enter Try.func39, Try.ntmps39
  go_wp2
  generalize w.alloc (.cells #[.int .i64 h.d, .int .i64 h.i, .string h.c] 34) = wb at b0 HG ⊢
  go_loopw [5] (fun i ws => ∃ a : Nat, a ≤ n ∧ i = .int .i64 a ∧ Gr wb ws ∧ Hid (∀ (j : Nat) (y : Hv), j < a → S[j]? = some y → hless y h)) (fun i _ => n - (intOf i).toNat)
  case atStart => exact ⟨0, Nat.zero_le _, rfl, Gr.refl _, Lib.hid (fun j y hj => by omega)⟩
  case round =>
    obtain ⟨a, ha, rfl, hG, HA⟩ := hrel
    obtain ⟨wo, rfl⟩ : ∃ wo : World, wo = wr := ⟨_, rfl⟩
    have b1 : wo.heap[w.heap.size]? = some (.cells #[.int .i64 h.d, .int .i64 h.i, .string h.c] 34 (0, 0)) := (hG.below.block _ (Array.getElem?_eq_some_iff.1 b0).1).trans b0
    have k0 : wo.cell? ⟨w.heap.size, 0, none⟩ = some (.int .i64 h.d) := by simp [World.cell?, b1]
    have k1 : wo.cell? ⟨w.heap.size, 1, none⟩ = some (.int .i64 h.i) := by simp [World.cell?, b1]
    have k2 : wo.cell? ⟨w.heap.size, 2, none⟩ = some (.string h.c) := by simp [World.cell?, b1]
    have hGw : Gr w wo := HG.trans hG
    have i0' : (0 : Int) ≤ (a : Int) := by omega
    by_cases hlt : a < n
    · have hal : a < S.length := by rw [HN.out]; exact hlt
      obtain ⟨y, hy⟩ : ∃ y, hd S a = y := ⟨_, rfl⟩
      have hyS := hd_get hal
      rw [hy] at hyS
      obtain ⟨g, rfl, _, _, _, _⟩ := HRd.out (by omega)
      obtain ⟨pa, hpa, u0, u1, u2⟩ := ((HL.of_own HLw.out).gr hGw) a _ hyS
      obtain rfl : ⟨g, 0, none⟩ = pa := Option.some.inj hpa
      have HY := Lib.hid hyS
      have i1 : (a : Int) < (n : Int) := by omega
      have i1d : decide ((a : Int) < (n : Int)) = true := by simpa using hlt
      simp only [add_zeroH] at u0 u1 u2
      have hS0 := Lib.hid (fun (W : World) (hW : Gr wo W) => (⟨(hW.below.cell (p := ⟨g, a * 3, none⟩) (cell_ltH u0)).trans u0, (hW.below.cell (p := ⟨g, a * 3 + 1, none⟩) (cell_ltH u1)).trans u1, (hW.below.cell (p := ⟨g, a * 3 + 2, none⟩) (cell_ltH u2)).trans u2, (hW.below.cell (p := ⟨w.heap.size, 0, none⟩) (cell_ltH k0)).trans k0, (hW.below.cell (p := ⟨w.heap.size, 1, none⟩) (cell_ltH k1)).trans k1, (hW.below.cell (p := ⟨w.heap.size, 2, none⟩) (cell_ltH k2)).trans k2⟩ : W.cell? ⟨g, a * 3, none⟩ = some (.int .i64 y.d) ∧ W.cell? ⟨g, a * 3 + 1, none⟩ = some (.int .i64 y.i) ∧ W.cell? ⟨g, a * 3 + 2, none⟩ = some (.string y.c) ∧ W.cell? ⟨w.heap.size, 0, none⟩ = some (.int .i64 h.d) ∧ W.cell? ⟨w.heap.size, 1, none⟩ = some (.int .i64 h.i) ∧ W.cell? ⟨w.heap.size, 2, none⟩ = some (.string h.c)))
      clear hpa hyS hy
      by_cases hly : hless y h
      · have C := rless_calls y h
        simp only [hly, decide_true, Hv.val] at C
        have HC := Lib.hid C
        have HA2 : Hid (∀ (j : Nat) (z : Hv), j < a + 1 → S[j]? = some z → hless z h) := Lib.hid (fun j z hj hz => by
          rcases Nat.lt_or_ge j a with h1 | h1
          · exact HA.out j z h1 hz
          · obtain rfl : j = a := by omega
            rw [HY.out] at hz; cases hz; exact hly)
        clear C
        go_wp2
        go_region_held3 (fun w' => w'.cell? ⟨g, a * 3, none⟩ = some (.int .i64 y.d) ∧ w'.cell? ⟨g, a * 3 + 1, none⟩ = some (.int .i64 y.i) ∧ w'.cell? ⟨g, a * 3 + 2, none⟩ = some (.string y.c) ∧ w'.cell? ⟨w.heap.size, 0, none⟩ = some (.int .i64 h.d) ∧ w'.cell? ⟨w.heap.size, 1, none⟩ = some (.int .i64 h.i) ∧ w'.cell? ⟨w.heap.size, 2, none⟩ = some (.string h.c))
          (first | exact hS0.out _ ((Gr.refl wo).drew) | exact hS0.out _ (((Gr.refl wo).drew).trans hg2))
          ((go_at_call 47; refine (HC.out _).mono ?_; rintro e w2 ⟨rfl, hg2⟩))
        have hG2 := hG.trans (((Gr.refl wo).drew).trans hg2)
        clear hg2 u0 u1 u2 k0 k1 k2 b1
        go_wp2
        go_roundw
        case rel => exact ⟨a + 1, by omega, by go_num, hG2, HA2⟩
        case measure => simp [intOf]; omega
      · have C := rless_calls y h
        simp only [hly, decide_false, Hv.val] at C
        have HC := Lib.hid C
        clear C
        go_wp2
        go_region_held3 (fun w' => w'.cell? ⟨g, a * 3, none⟩ = some (.int .i64 y.d) ∧ w'.cell? ⟨g, a * 3 + 1, none⟩ = some (.int .i64 y.i) ∧ w'.cell? ⟨g, a * 3 + 2, none⟩ = some (.string y.c) ∧ w'.cell? ⟨w.heap.size, 0, none⟩ = some (.int .i64 h.d) ∧ w'.cell? ⟨w.heap.size, 1, none⟩ = some (.int .i64 h.i) ∧ w'.cell? ⟨w.heap.size, 2, none⟩ = some (.string h.c))
          (first | exact hS0.out _ ((Gr.refl wo).drew) | exact hS0.out _ (((Gr.refl wo).drew).trans hg2))
          ((go_at_call 47; refine (HC.out _).mono ?_; rintro e w2 ⟨rfl, hg2⟩))
        have hG2 := hGw.trans (((Gr.refl wo).drew).trans hg2)
        have hb2 := (((Gr.refl wo).drew).trans hg2).below
        have b2 := (hb2.block _ (Array.getElem?_eq_some_iff.1 b1).1).trans b1
        clear hg2 u0 u1 u2 k0 k1 k2 b1 hb2
        have k0 : w2.cell? ⟨w.heap.size, 0, none⟩ = some (.int .i64 h.d) := by simp [World.cell?, b2]
        have k1 : w2.cell? ⟨w.heap.size, 1, none⟩ = some (.int .i64 h.i) := by simp [World.cell?, b2]
        have k2 : w2.cell? ⟨w.heap.size, 2, none⟩ = some (.string h.c) := by simp [World.cell?, b2]
        have HL2 := Lib.hid (own_belowAll HLw.out hG2.below)
        obtain ⟨pa, hpa, u0, u1, u2⟩ := (HL.of_own HL2.out) a _ HY.out
        obtain rfl : ⟨g, 0, none⟩ = pa := Option.some.inj hpa
        have hEq := eql_hit y h
        by_cases he : y = h
        · subst he
          simp only [decide_true] at hEq
          have hin : y ∈ S := List.mem_of_getElem? HY.out
          have hpost : ∀ W, Gr w2 W → PutR w (.slice (some ⟨g, 0, none⟩) n cap) S y (.returned (.slice (some ⟨g, 0, none⟩) n cap)) W := fun W hW =>
            ⟨_, rfl, (hG2.trans hW).below, by rw [insH_mem HS.out hin, HN.out]; exact own_belowAll HLw.out (hG2.trans hW).below, .inl rfl⟩
          have HPo := Lib.hid hpost
          clear hpost hin hpa
          go_wp2
          go_quiet (fail)
          go_wp2
          go_ret
          exact HPo.out _ ((Gr.refl w2).drewN _)
        · simp only [he, decide_false] at hEq
          have hsp := Lib.hid (insH_split S h a HS.out HA.out (fun z hz => by rw [HY.out] at hz; cases hz; exact ⟨hly, he⟩) (by rw [HN.out]; omega))
          clear hpa hly he
          go_wp2
          go_quiet (fail)
          obtain ⟨W1, hW1⟩ : ∃ x, w2.drewN nq = x := ⟨_, rfl⟩
          rw [hW1]
          have hGd : Gr w W1 := by rw [← hW1]; exact hG2.drewN _
          have b3 : W1.heap[w.heap.size]? = some (.cells #[.int .i64 h.d, .int .i64 h.i, .string h.c] 34 (0, 0)) := by rw [← hW1]; exact b2
          clear hW1 b2
          clear k0 k1 k2 u0 u1 u2
          have HL1 := Lib.hid (own_belowAll HLw.out hGd.below)
          have nt := Lib.hid (news_take HL1.out a)
          have hgl := Lib.hid ((HL1.out.lt g rfl).2)
          have htl : (encH (S.take a)).length = a * 3 := by rw [encH_length, List.length_take, HN.out]; omega
          have q1 : (a : Int) ≤ (cap : Int) := by omega
          have q2 : a ≤ cap := by omega
          go_upto_region 8 with (at_builtin; refine wpList_append_own _ rfl _ _ 23 rfl W1.heap.size 34 i0 _ 3 32 Try.underlying23 hi0 hz0 hz1 hz2 rfl (by decide) (.slice none 0 0) 0 [] rfl ⟨rfl, .inl ⟨rfl, rfl⟩⟩ ⟨g, 0, none⟩ a cap (encH (S.take a)) rfl htl nt.out (encH_one _) (by unfold maxLen; omega) (by omega) (Nat.le_refl _) ?_; intro v1 w3 hown1 hgrow1 _)
          simp only [List.nil_append, Nat.zero_add] at hown1
          have hb3 : Below W1.heap.size W1 w3 := (Below.refl _ _).grown hgrow1 (Nat.le_refl _) (fun k hk => by cases hk)
          have b4 := (hb3.block _ (Array.getElem?_eq_some_iff.1 b3).1).trans b3
          have k0 : w3.cell? ⟨w.heap.size, 0, none⟩ = some (.int .i64 h.d) := by simp [World.cell?, b4]
          have k1 : w3.cell? ⟨w.heap.size, 1, none⟩ = some (.int .i64 h.i) := by simp [World.cell?, b4]
          have k2 : w3.cell? ⟨w.heap.size, 2, none⟩ = some (.string h.c) := by simp [World.cell?, b4]
          have hz3 := hb3.size
          have HOwn1 := Lib.hid (hown1.alloc (.cells #[.int .i64 h.d, .int .i64 h.i, .string h.c] 34))
          have HLt1 := Lib.hid hown1.lt
          have HB3 := Lib.hid hb3
          clear hown1 hb3 b3 b4 hgrow1
          go_upto_region 9 with (at_builtin; refine wpList_append_own _ rfl _ _ 23 rfl W1.heap.size 34 i0 _ 3 32 Try.underlying23 hi0 hz0 hz1 hz2 rfl (by decide) v1 a (encH (S.take a)) rfl HOwn1.out ⟨w3.heap.size, 0, none⟩ 1 1 h.cells rfl rfl (World.news_of_block (cs := #[.int .i64 h.d, .int .i64 h.i, .string h.c]) (t := 34) (fr := (0, 0)) (heap_alloc_new w3 _)) (by simp [Value.oneCell', Hv.cells]) (by unfold maxLen; omega) (by omega) (by simp <;> omega) ?_; intro v2 w4 hown2 hgrow2 _)
          have hb4 : Below W1.heap.size W1 w4 := (HB3.out.alloc (by omega) _).grown hgrow2 (by simp <;> omega) (fun k hk => (HLt1.out k hk).1)
          have hz4 := hb4.size
          have HB4 := Lib.hid hb4
          have HLt2 := Lib.hid hown2.lt
          have HOwn2 := Lib.hid hown2
          clear hown2 hgrow2 hb4 k0 k1 k2
          have ndx := news_drop HL1.out a
          have nd : Hid (∀ j u, (encH (S.drop a))[j]? = some u → w4.cell? ((⟨g, a * 3, none⟩ : Addr).add j) = some u) := Lib.hid (fun j u hj => by
            have e1 : (⟨g, a * 3, none⟩ : Addr).add j = ⟨g, a * 3 + j, none⟩ := by unfold Addr.add; split <;> simp_all
            have := ndx j u hj
            rw [e1] at this ⊢
            exact (HB4.out.cell (p := ⟨g, a * 3 + j, none⟩) hgl.out).trans this)
          have hdl : (encH (S.drop a)).length = (n - a) * 3 := by rw [encH_length, List.length_drop, HN.out]
          have q3 : ¬ a = cap := by omega
          have q4 : ¬ cap = a := by omega
          have q5 : (a : Int) < (cap : Int) := by omega
          clear ndx
          go_wp2_with (at_builtin; refine wpList_append_own _ rfl _ _ 23 rfl W1.heap.size 34 i0 _ 3 32 Try.underlying23 hi0 hz0 hz1 hz2 rfl (by decide) v2 (a + 1) _ rfl HOwn2.out ⟨g, a * 3, none⟩ (n - a) (cap - a) (encH (S.drop a)) rfl hdl nd.out (encH_one _) (by unfold maxLen; omega) (by omega) (by omega) ?_; intro v3 w5 hown3 hgrow3 _)
          have HOwn3 := Lib.hid hown3
          have hb5 : Below W1.heap.size W1 w5 := HB4.out.grown hgrow3 (by omega) (fun k hk => (HLt2.out k hk).1)
          clear hown3 hgrow3
          go_wp2
          go_ret
          refine putR_new (a := a) (n := n) (m := a + 1 + (n - a)) hsp.out HN.out (by omega) (by omega) hGd.below.size (hGd.below.trans (hb5.mono hGd.below.size)) ?_
          exact HOwn3.out
    · obtain rfl : a = n := by omega
      have hd1 : decide ((a : Int) < (a : Int)) = false := by simp
      have hd2 : decide (a < a) = false := by simp
      have hG2 := hGw
      have b2 := b1
      have hsp := Lib.hid (insH_split S h a HS.out HA.out (fun z hz => by have := (List.getElem?_eq_some_iff.1 hz).1; rw [HN.out] at this; omega) (by rw [HN.out]; exact Nat.le_refl _))
      have hno : wo = wo := rfl
      clear hno
      by_cases hz : a = 0
      · have hSn : S = [] := List.eq_nil_of_length_eq_zero (by rw [HN.out]; exact hz)
        have hpn := HNil.out hSn
        obtain ⟨rfl, _, rfl⟩ : p = none ∧ a = 0 ∧ cap = 0 := by simpa using hpn
        subst hz
        clear hSn hpn
        go_wp2
        go_quiet (fail)
        obtain ⟨wd, hwd⟩ : ∃ x, wo.drewN nq = x := ⟨_, rfl⟩
        rw [hwd]
        have hGd0 : Gr wo wd := by rw [← hwd]; exact (Gr.refl wo).drewN _
        clear hwd k0 k1 k2
        go_wp2
        go_quiet (fail)
        obtain ⟨W1, hW1⟩ : ∃ x, wd.drewN nq = x := ⟨_, rfl⟩
        rw [hW1]
        have hGd : Gr w W1 := by rw [← hW1]; exact (hG2.trans hGd0).drewN _
        have b3 : W1.heap[w.heap.size]? = some (.cells #[.int .i64 h.d, .int .i64 h.i, .string h.c] 34 (0, 0)) := by rw [← hW1]; exact ((hGd0.below.block _ (Array.getElem?_eq_some_iff.1 b2).1).trans b2)
        clear hW1 b2
        go_upto_region 8 with fail
        have hown1 : W1.ownsRow W1.heap.size 34 3 (.slice none 0 0) 0 (encH (S.take 0)) := ⟨rfl, .inl ⟨rfl, rfl⟩⟩
        have hb3 : Below W1.heap.size W1 W1 := Below.refl _ _
        have b4 := (hb3.block _ (Array.getElem?_eq_some_iff.1 b3).1).trans b3
        have k0 : W1.cell? ⟨w.heap.size, 0, none⟩ = some (.int .i64 h.d) := by simp [World.cell?, b4]
        have k1 : W1.cell? ⟨w.heap.size, 1, none⟩ = some (.int .i64 h.i) := by simp [World.cell?, b4]
        have k2 : W1.cell? ⟨w.heap.size, 2, none⟩ = some (.string h.c) := by simp [World.cell?, b4]
        have hz3 := hb3.size
        have HOwn1 := Lib.hid (hown1.alloc (.cells #[.int .i64 h.d, .int .i64 h.i, .string h.c] 34))
        have HLt1 := Lib.hid hown1.lt
        have HB3 := Lib.hid hb3
        clear hown1 hb3 b3 b4
        go_upto_region 9 with (at_builtin; refine wpList_append_own _ rfl _ _ 23 rfl W1.heap.size 34 i0 _ 3 32 Try.underlying23 hi0 hz0 hz1 hz2 rfl (by decide) (.slice none 0 0) 0 (encH (S.take 0)) rfl HOwn1.out ⟨W1.heap.size, 0, none⟩ 1 1 h.cells rfl rfl (World.news_of_block (cs := #[.int .i64 h.d, .int .i64 h.i, .string h.c]) (t := 34) (fr := (0, 0)) (heap_alloc_new W1 _)) (by simp [Value.oneCell', Hv.cells]) (by unfold maxLen; omega) (by omega) (by simp <;> omega) ?_; intro v2 w4 hown2 hgrow2 _)
        have hb4 : Below W1.heap.size W1 w4 := (HB3.out.alloc (by omega) _).grown hgrow2 (by simp <;> omega) (fun k hk => (HLt1.out k hk).1)
        have hz4 := hb4.size
        have HB4 := Lib.hid hb4
        have HLt2 := Lib.hid hown2.lt
        have HOwn2 := Lib.hid hown2
        clear hown2 hgrow2 hb4 k0 k1 k2
        go_wp2_with (at_builtin; refine wpList_append_own_none rfl _ _ 23 rfl W1.heap.size 34 i0 3 Try.underlying23 hi0 v2 _ _ rfl HOwn2.out rfl ?_)
        go_ret
        refine putR_new (a := 0) (n := 0) (m := 0 + 1) hsp.out HN.out (Nat.le_refl _) rfl hGd.below.size (hGd.below.trans (HB4.out.mono hGd.below.size)) ?_
        have e : encH (S.drop 0) = [] := by rw [List.eq_nil_of_length_eq_zero HN.out]; rfl
        rw [e, List.append_nil]
        exact HOwn2.out
      · obtain ⟨g, rfl, _, _, _, _⟩ := HRd.out (by omega)
        go_wp2
        go_quiet (fail)
        obtain ⟨wd, hwd⟩ : ∃ x, wo.drewN nq = x := ⟨_, rfl⟩
        rw [hwd]
        have hGd0 : Gr wo wd := by rw [← hwd]; exact (Gr.refl wo).drewN _
        clear hwd k0 k1 k2
        by_cases hcap : cap = a
        · subst hcap
          go_wp2
          go_quiet (fail)
          obtain ⟨W1, hW1⟩ : ∃ x, wd.drewN nq = x := ⟨_, rfl⟩
          rw [hW1]
          have hGd : Gr w W1 := by rw [← hW1]; exact (hG2.trans hGd0).drewN _
          have b3 : W1.heap[w.heap.size]? = some (.cells #[.int .i64 h.d, .int .i64 h.i, .string h.c] 34 (0, 0)) := by rw [← hW1]; exact ((hGd0.below.block _ (Array.getElem?_eq_some_iff.1 b2).1).trans b2)
          clear hW1 b2
          have HL1 := Lib.hid (own_belowAll HLw.out hGd.below)
          have nt := Lib.hid (news_take HL1.out cap)
          have hgl := Lib.hid ((HL1.out.lt g rfl).2)
          have htl : (encH (S.take cap)).length = cap * 3 := by rw [encH_length, List.length_take, HN.out]; omega
          go_upto_region 8 with (at_builtin; refine wpList_append_own _ rfl _ _ 23 rfl W1.heap.size 34 i0 _ 3 32 Try.underlying23 hi0 hz0 hz1 hz2 rfl (by decide) (.slice none 0 0) 0 [] rfl ⟨rfl, .inl ⟨rfl, rfl⟩⟩ ⟨g, 0, none⟩ cap cap (encH (S.take cap)) rfl htl nt.out (encH_one _) (by unfold maxLen; omega) (by omega) (Nat.le_refl _) ?_; intro v1 w3 hown1 hgrow1 _)
          simp only [List.nil_append, Nat.zero_add] at hown1
          have hb3 : Below W1.heap.size W1 w3 := (Below.refl _ _).grown hgrow1 (Nat.le_refl _) (fun k hk => by cases hk)
          have b4 := (hb3.block _ (Array.getElem?_eq_some_iff.1 b3).1).trans b3
          have k0 : w3.cell? ⟨w.heap.size, 0, none⟩ = some (.int .i64 h.d) := by simp [World.cell?, b4]
          have k1 : w3.cell? ⟨w.heap.size, 1, none⟩ = some (.int .i64 h.i) := by simp [World.cell?, b4]
          have k2 : w3.cell? ⟨w.heap.size, 2, none⟩ = some (.string h.c) := by simp [World.cell?, b4]
          have hz3 := hb3.size
          have HOwn1 := Lib.hid (hown1.alloc (.cells #[.int .i64 h.d, .int .i64 h.i, .string h.c] 34))
          have HLt1 := Lib.hid hown1.lt
          have HB3 := Lib.hid hb3
          clear hown1 hb3 b3 b4 hgrow1
          go_upto_region 9 with (at_builtin; refine wpList_append_own _ rfl _ _ 23 rfl W1.heap.size 34 i0 _ 3 32 Try.underlying23 hi0 hz0 hz1 hz2 rfl (by decide) v1 cap (encH (S.take cap)) rfl HOwn1.out ⟨w3.heap.size, 0, none⟩ 1 1 h.cells rfl rfl (World.news_of_block (cs := #[.int .i64 h.d, .int .i64 h.i, .string h.c]) (t := 34) (fr := (0, 0)) (heap_alloc_new w3 _)) (by simp [Value.oneCell', Hv.cells]) (by unfold maxLen; omega) (by omega) (by simp <;> omega) ?_; intro v2 w4 hown2 hgrow2 _)
          have hb4 : Below W1.heap.size W1 w4 := (HB3.out.alloc (by omega) _).grown hgrow2 (by simp <;> omega) (fun k hk => (HLt1.out k hk).1)
          have hz4 := hb4.size
          have HB4 := Lib.hid hb4
          have HLt2 := Lib.hid hown2.lt
          have HOwn2 := Lib.hid hown2
          clear hown2 hgrow2 hb4 k0 k1 k2
          go_wp2_with (at_builtin; refine wpList_append_own _ rfl _ _ 23 rfl W1.heap.size 34 i0 _ 3 32 Try.underlying23 hi0 hz0 hz1 hz2 rfl (by decide) v2 (cap + 1) _ rfl HOwn2.out ⟨g, 0, none⟩ 0 0 [] rfl rfl (fun j u hj => by simp at hj) (fun u hu => by cases hu) (by unfold maxLen; omega) (by omega) (by omega) ?_; intro v3 w5 hown3 hgrow3 _)
          have HOwn3 := Lib.hid hown3
          have hb5 : Below W1.heap.size W1 w5 := HB4.out.grown hgrow3 (by omega) (fun k hk => (HLt2.out k hk).1)
          clear hown3 hgrow3
          go_wp2
          go_ret
          refine putR_new (a := cap) (n := cap) (m := cap + 1 + 0) hsp.out HN.out (by omega) (by omega) hGd.below.size (hGd.below.trans (hb5.mono hGd.below.size)) ?_
          have e : encH (S.drop cap) = [] := by rw [List.drop_of_length_le (Nat.le_of_eq HN.out)]; rfl
          rw [e]
          exact HOwn3.out
        · go_wp2
          go_quiet (fail)
          obtain ⟨W1, hW1⟩ : ∃ x, wd.drewN nq = x := ⟨_, rfl⟩
          rw [hW1]
          have hGd : Gr w W1 := by rw [← hW1]; exact (hG2.trans hGd0).drewN _
          have b3 : W1.heap[w.heap.size]? = some (.cells #[.int .i64 h.d, .int .i64 h.i, .string h.c] 34 (0, 0)) := by rw [← hW1]; exact ((hGd0.below.block _ (Array.getElem?_eq_some_iff.1 b2).1).trans b2)
          clear hW1 b2
          have HL1 := Lib.hid (own_belowAll HLw.out hGd.below)
          have nt := Lib.hid (news_take HL1.out a)
          have hgl := Lib.hid ((HL1.out.lt g rfl).2)
          have htl : (encH (S.take a)).length = a * 3 := by rw [encH_length, List.length_take, HN.out]; omega
          have q1 : (a : Int) ≤ (cap : Int) := by omega
          have q2 : a ≤ cap := by omega
          go_upto_region 8 with (at_builtin; refine wpList_append_own _ rfl _ _ 23 rfl W1.heap.size 34 i0 _ 3 32 Try.underlying23 hi0 hz0 hz1 hz2 rfl (by decide) (.slice none 0 0) 0 [] rfl ⟨rfl, .inl ⟨rfl, rfl⟩⟩ ⟨g, 0, none⟩ a cap (encH (S.take a)) rfl htl nt.out (encH_one _) (by unfold maxLen; omega) (by omega) (Nat.le_refl _) ?_; intro v1 w3 hown1 hgrow1 _)
          simp only [List.nil_append, Nat.zero_add] at hown1
          have hb3 : Below W1.heap.size W1 w3 := (Below.refl _ _).grown hgrow1 (Nat.le_refl _) (fun k hk => by cases hk)
          have b4 := (hb3.block _ (Array.getElem?_eq_some_iff.1 b3).1).trans b3
          have k0 : w3.cell? ⟨w.heap.size, 0, none⟩ = some (.int .i64 h.d) := by simp [World.cell?, b4]
          have k1 : w3.cell? ⟨w.heap.size, 1, none⟩ = some (.int .i64 h.i) := by simp [World.cell?, b4]
          have k2 : w3.cell? ⟨w.heap.size, 2, none⟩ = some (.string h.c) := by simp [World.cell?, b4]
          have hz3 := hb3.size
          have HOwn1 := Lib.hid (hown1.alloc (.cells #[.int .i64 h.d, .int .i64 h.i, .string h.c] 34))
          have HLt1 := Lib.hid hown1.lt
          have HB3 := Lib.hid hb3
          clear hown1 hb3 b3 b4 hgrow1
          go_upto_region 9 with (at_builtin; refine wpList_append_own _ rfl _ _ 23 rfl W1.heap.size 34 i0 _ 3 32 Try.underlying23 hi0 hz0 hz1 hz2 rfl (by decide) v1 a (encH (S.take a)) rfl HOwn1.out ⟨w3.heap.size, 0, none⟩ 1 1 h.cells rfl rfl (World.news_of_block (cs := #[.int .i64 h.d, .int .i64 h.i, .string h.c]) (t := 34) (fr := (0, 0)) (heap_alloc_new w3 _)) (by simp [Value.oneCell', Hv.cells]) (by unfold maxLen; omega) (by omega) (by simp <;> omega) ?_; intro v2 w4 hown2 hgrow2 _)
          have hb4 : Below W1.heap.size W1 w4 := (HB3.out.alloc (by omega) _).grown hgrow2 (by simp <;> omega) (fun k hk => (HLt1.out k hk).1)
          have hz4 := hb4.size
          have HB4 := Lib.hid hb4
          have HLt2 := Lib.hid hown2.lt
          have HOwn2 := Lib.hid hown2
          clear hown2 hgrow2 hb4 k0 k1 k2
          have q3 : ¬ (a : Nat) = cap := fun e => hcap e.symm
          go_wp2_with (at_builtin; refine wpList_append_own _ rfl _ _ 23 rfl W1.heap.size 34 i0 _ 3 32 Try.underlying23 hi0 hz0 hz1 hz2 rfl (by decide) v2 (a + 1) _ rfl HOwn2.out ⟨g, a * 3, none⟩ 0 (cap - a) [] rfl rfl (fun j u hj => by simp at hj) (fun u hu => by cases hu) (by unfold maxLen; omega) (by omega) (by omega) ?_; intro v3 w5 hown3 hgrow3 _)
          have HOwn3 := Lib.hid hown3
          have hb5 : Below W1.heap.size W1 w5 := HB4.out.grown hgrow3 (by omega) (fun k hk => (HLt2.out k hk).1)
          clear hown3 hgrow3
          go_wp2
          go_ret
          refine putR_new (a := a) (n := a) (m := a + 1 + 0) hsp.out HN.out (by omega) (by omega) hGd.below.size (hGd.below.trans (hb5.mono hGd.below.size)) ?_
          have e : encH (S.drop a) = [] := by rw [List.drop_of_length_le (Nat.le_of_eq HN.out)]; rfl
          rw [e]
          exact HOwn3.out
end Go.Proofs.Ytahceakghgmpkaa

/-
  THE LAW BestWorst, walked: the bound falls, and what is above it may be left out. (Printed by worstgen.py.)
-/
import Derived.Test.YtahceakghgmpkaaLawBs
namespace Go.Proofs.Ytahceakghgmpkaa
open Go.RowKit ArgK
set_option linter.unusedVariables false

/-- Two tops of the call's own that share nothing. -/
def Pair2 (ty : TypeId) (w : World) (ta tb : Nat) (j k : Int) (T U : List Hv) (wr : World) : Prop :=
  ∃ F G, Heap1 ty wr ta j T F ∧ Heap1 ty wr tb k U G ∧ (∀ x, F x → ¬ G x) ∧ Below w.heap.size w wr ∧ (∀ b, F b → w.heap.size ≤ b) ∧ ∀ b, G b → w.heap.size ≤ b

theorem Pair2.start {ty : TypeId} {w w1 w2 w3 : World} {ta tb : Nat} {j k : Int} {T U : List Hv} (h : Owned ty w ta j T w1) (hb : Below w1.heap.size w1 w2) (h2 : Owned ty w2 tb k U w3) : Pair2 ty w ta tb j k T U w3 := by
  obtain ⟨F, a1, a2, a3⟩ := h
  obtain ⟨G, b1, b2, b3⟩ := h2
  have hs := hb.size
  refine ⟨F, G, (a1.below hb).below b2, b1, fun x hx hg => ?_, (a2.trans (hb.mono a2.size)).trans (b2.mono (Nat.le_trans a2.size hs)), a3, fun b hb' => Nat.le_trans (Nat.le_trans a2.size hs) (b3 b hb')⟩
  have := a1.lt x hx
  have := b3 x hg
  omega

theorem Pair2.below {ty : TypeId} {w w1 w2 : World} {ta tb : Nat} {j k : Int} {T U : List Hv} (h : Pair2 ty w ta tb j k T U w1) (hb : Below w1.heap.size w1 w2) : Pair2 ty w ta tb j k T U w2 := by
  obtain ⟨F, G, h1, h2, h3, h4, h5, h6⟩ := h
  exact ⟨F, G, h1.below hb, h2.below hb, h3, h4.trans (hb.mono h4.size), h5, h6⟩

theorem Pair2.swap {ty : TypeId} {w w1 : World} {ta tb : Nat} {j k : Int} {T U : List Hv} (h : Pair2 ty w ta tb j k T U w1) : Pair2 ty w tb ta k j U T w1 := by
  obtain ⟨F, G, h1, h2, h3, h4, h5, h6⟩ := h
  exact ⟨G, F, h2, h1, fun x hx hf => h3 x hf hx, h4, h6, h5⟩

theorem Pair2.fst {ty : TypeId} {w w1 : World} {ta tb : Nat} {j k : Int} {T U : List Hv} (h : Pair2 ty w ta tb j k T U w1) : Owned ty w ta j T w1 := by
  obtain ⟨F, G, h1, h2, h3, h4, h5, h6⟩ := h
  exact ⟨F, h1, h4, h5⟩

theorem Pair2.bel {ty : TypeId} {w w1 : World} {ta tb : Nat} {j k : Int} {T U : List Hv} (h : Pair2 ty w ta tb j k T U w1) : Below w.heap.size w w1 := by
  obtain ⟨F, G, h1, h2, h3, h4, h5, h6⟩ := h
  exact h4

theorem Pair2.added {ty : TypeId} {w w1 w2 : World} {ta tb : Nat} {j k : Int} {T' U : List Hv} {F G : Nat → Prop} {b : Bool} {e : Ending} (h2 : Heap1 ty w1 tb k U G) (h3 : ∀ x, F x → ¬ G x) (h4 : Below w.heap.size w w1) (h5 : ∀ b, F b → w.heap.size ≤ b) (h6 : ∀ b, G b → w.heap.size ≤ b) (h : AddedPost ty w1 ta j T' b F e w2) :
    e = .returned (.bool b) ∧ Pair2 ty w ta tb j k T' U w2 := by
  obtain ⟨he, F', k1, k2, k3⟩ := h
  refine ⟨he, F', G, k1, h2.keep k2 (fun b hb hF => h3 b hF hb), fun x hx hg => ?_, h4.trans (k2.below h4.size h5), fun x hx => ?_, h6⟩
  · rcases k3 x hx with h | h
    · exact h3 x h hg
    · have := h2.lt x hg; omega
  · rcases k3 x hx with h | h
    · exact h5 x h
    · exact Nat.le_trans h4.size h

theorem Pair2.add {w w1 : World} {ta tb j : Nat} {k : Int} {T U : List Hv} (h : Pair2 68 w ta tb (j : Int) k T U w1) (hj : j ≤ 4096) (hl : T.length ≤ j) (x : Hv) (hg : GoodH x) :
    Calls Try.prog 22 #[.pointer (some ⟨ta, 0, none⟩), x.val] w1 fun e w2 => e = .returned (.bool (decide (x ∈ (insH T x).take j))) ∧ Pair2 68 w ta tb (j : Int) k ((insH T x).take j) U w2 := by
  obtain ⟨F, G, h1, h2, h3, h4, h5, h6⟩ := h
  exact (top_add h1 hj hl x hg).mono fun e w2 hp => Pair2.added h2 h3 h4 h5 h6 hp

/-- What is above the bound is not let in. -/
theorem above_out {T : List Hv} {k : Nat} {x : Hv} (hT : Ris T) (hl : T.length = k + 1) (hd' : (hd T k).d < x.d) : (insH T x).take (k + 1) = T ∧ x ∉ T := by
  refine insH_behind hT hl (fun y hy => ?_)
  have e := list_snoc hl
  have hlast : hless (hd T k) x := .inl hd'
  rw [e] at hy hT
  rcases List.mem_append.1 hy with h | h
  · exact hless_trans ((ris_snoc hT).2 y h) hlast
  · rw [List.mem_singleton.1 h]; exact hlast

theorem hless_d {a b : Hv} (h : hless a b) : a.d ≤ b.d := by
  rcases h with h | ⟨h, _⟩
  · omega
  · omega

theorem ris_last {T : List Hv} {k : Nat} {y : Hv} (hT : Ris T) (hl : T.length = k + 1) (hy : y ∈ T) : y = hd T k ∨ hless y (hd T k) := by
  have e := list_snoc hl
  generalize hd T k = q at e ⊢
  rw [e] at hy hT
  rcases List.mem_append.1 hy with h | h
  · exact .inr ((ris_snoc hT).2 y h)
  · exact .inl (List.mem_singleton.1 h)

/-- One more hit: the last of the first k does not rise. -/
theorem worst_falls {T : List Hv} {k : Nat} {x : Hv} (hT : Ris T) (hl : T.length = k + 1) : ((insH T x).take (k + 1)).length = k + 1 ∧ (hd ((insH T x).take (k + 1)) k).d ≤ (hd T k).d := by
  have hlen : ((insH T x).take (k + 1)).length = k + 1 := by
    have := insH_length hT x
    split at this <;> simp <;> omega
  refine ⟨hlen, ?_⟩
  by_cases hm : x ∈ T
  · rw [take_insH_mem hT (by omega) hm]; exact Int.le_refl _
  · have hr := ris_insH hT x
    have hl2 : (insH T x).length = k + 2 := by rw [insH_length hT, if_neg hm]; omega
    have hq : hd ((insH T x).take (k + 1)) k ∈ (insH T x).take (k + 1) := List.mem_of_getElem? (hd_get (by omega))
    have hz : hd (insH T x) (k + 1) ∈ insH T x := List.mem_of_getElem? (hd_get (by omega))
    have hqz : hless (hd ((insH T x).take (k + 1)) k) (hd (insH T x) (k + 1)) := by
      have e := list_snoc hl2
      generalize hd (insH T x) (k + 1) = y at e ⊢
      generalize hd ((insH T x).take (k + 1)) k = q at hq ⊢
      generalize (insH T x).take (k + 1) = Q at e hq
      rw [e] at hr
      exact (ris_snoc hr).2 q hq
    rcases (mem_insH T x _).1 (List.mem_of_mem_take hq) with h | h
    · rcases ris_last hT hl h with e | e
      · rw [e]; exact Int.le_refl _
      · exact hless_d e
    · rcases (mem_insH T x _).1 hz with h2 | h2
      · have a1 := hless_d hqz
        rcases ris_last hT hl h2 with e | e
        · rw [e] at a1; exact a1
        · have a2 := hless_d e
          omega
      · rw [h, h2] at hqz
        exact absurd hqz (hless_irrefl _)

/-- The head of the loop. -/
def WRel (w : World) (ta tb k m : Nat) (z : List Hv) (sl sw si : Value) (wr : World) : Prop :=
  ∃ (a : Nat) (last : Int) (was : Bool), a ≤ m ∧ si = .int .i64 a ∧ sl = .int .i64 last ∧ sw = .bool was ∧
    Pair2 68 w ta tb (k : Int) (k : Int) ((allH (z.take a)).take k) ((allH (z.take a)).take k) wr ∧
    (was = true → worstB k ((allH (z.take a)).take k) = true ∧ worstV k ((allH (z.take a)).take k) ≤ last)

theorem w_next {w wr : World} {ta tb k m a : Nat} {z T : List Hv} {x : Hv} {B : Bool} {W : Int} (ha : a < m) (hm : z.length = m) (hx : hd z a = x) (hT : (allH (z.take a)).take k = T) (hTr : Ris T) (hTl : T.length ≤ k) (hB : worstB k T = B) (hW : worstV k T = W) (h : Pair2 68 w ta tb (k : Int) (k : Int) ((insH T x).take k) ((insH T x).take k) wr) :
    WRel w ta tb k m z (.int .i64 W) (.bool B) (.int .i64 (a + 1 : Nat)) wr := by
  have e : (allH (z.take (a + 1))).take k = (insH T x).take k := by
    rw [List.take_add_one, hd_get (by omega : a < z.length), hx, ← hT]
    exact top_snoc k _ x
  refine ⟨a + 1, W, B, ha, rfl, rfl, rfl, by rw [e]; exact h, fun hb => ?_⟩
  rw [e, ← hW]
  rw [← hB] at hb
  unfold worstB at hb ⊢
  simp only [decide_eq_true_eq] at hb ⊢
  unfold worstV
  rcases hb with h0 | h0
  · simp [h0]
  · by_cases hk : k = 0
    · simp [hk]
    · obtain ⟨j, rfl⟩ : ∃ j, k = j + 1 := ⟨k - 1, by omega⟩
      have := worst_falls (x := x) hTr (show T.length = j + 1 by omega)
      rw [if_neg hk, if_neg hk, if_neg (by omega), if_neg (by omega)]
      exact ⟨.inr (by omega), this.2⟩

theorem pair_same {w wr : World} {ta tb k : Nat} {T : List Hv} {x : Hv} (e : (insH T x).take k = T) (h : Pair2 68 w ta tb (k : Int) (k : Int) ((insH T x).take k) T wr) : Pair2 68 w ta tb (k : Int) (k : Int) ((insH T x).take k) ((insH T x).take k) wr := by
  rw [e] at h ⊢
  exact h

set_option maxRecDepth 100000 in
set_option maxHeartbeats 8000000 in
theorem BestWorst_walk (a0 : Int) (w0 : (Lit.int .i64 a0).wf = true) (v : Value) (z : List Hv) (w : World) (h1 : IsSl w 3 32 IsHit [v] z) :
    Calls Try.prog 7 #[.int .i64 a0, v] w fun e w' => e = .returned (.bool true) ∧ Below w.heap.size w w' := by
  obtain ⟨hsz, p, cap, rfl, hHL, hgood⟩ := hits_of_arg h1
  obtain ⟨m, hm⟩ : ∃ m, z.length = m := ⟨_, rfl⟩
  obtain ⟨k, hk⟩ : ∃ k, fitI a0 = k := ⟨_, rfl⟩
  have hk4 : k ≤ 4096 := by rw [← hk]; exact fitI_le a0
  have hFit := fun W => fit_calls a0 W
  rw [hk] at hFit
  have hN := Lib.hid (fun W => handed_fwd none 0 [] k hk4 (by simp) (fun x hx => by cases hx) W (fun i x hx => by simp at hx))
  rw [hm] at hsz ⊢
  have HFit := Lib.hid hFit
  have HM := Lib.hid hm
  have hHid := Lib.hid hHL
  have HGd := Lib.hid hgood
  clear h1 hHL hgood hk hFit hm
  go_enter Try.func7, Try.ntmps7
  go_wp2_with fail
  refine (begun_calls w).mono ?_
  rintro e w1 ⟨rfl, hb1⟩
  have HB1 := Lib.hid hb1
  clear hb1
  go_wp2_with fail
  refine (HFit.out _).mono ?_
  rintro e w1' ⟨rfl, rfl⟩
  go_wp2_with fail
  refine (hN.out _).mono ?_
  rintro e w2 ⟨ta, rfl, hO2⟩
  have HO2 := Lib.hid hO2
  clear hO2
  go_wp2_with fail
  refine (hN.out _).mono ?_
  rintro e w3 ⟨tb, rfl, hO3⟩
  have HP := Lib.hid (Pair2.start HO2.out (Below.refl _ _) hO3)
  clear hO3
  go_wp2
  go_loopw [8, 9, 10] (fun sl sw i ws => WRel w1' ta tb k m z sl sw i ws) (fun _ _ i _ => m - (intOf i).toNat)
  case atStart => exact ⟨0, 0, false, Nat.zero_le _, rfl, rfl, rfl, HP.out, fun h => by cases h⟩
  case round =>
    obtain ⟨a, last, was, ha, rfl, rfl, rfl, hP, hwas⟩ := hrel
    obtain ⟨wo, rfl⟩ : ∃ wo : World, wo = wr := ⟨_, rfl⟩
    obtain ⟨T, hT⟩ : ∃ T, (allH (z.take a)).take k = T := ⟨_, rfl⟩
    rw [hT] at hP hwas
    have hTl : T.length ≤ k := by rw [← hT]; simp; omega
    have hTr : Ris T := by rw [← hT]; exact ris_take (allH_ris _) k
    have HPo := Lib.hid hP
    have HT := Lib.hid hT
    have HTr := Lib.hid hTr
    obtain ⟨n, hn⟩ : ∃ n, T.length = n := ⟨_, rfl⟩
    have HN := Lib.hid hn
    rw [hn] at hTl
    have HWas := Lib.hid hwas
    clear hP hT hTr hwas hn HP HO2
    by_cases hlt : a < m
    · have hal : a < z.length := by rw [HM.out]; exact hlt
      obtain ⟨x, hx⟩ : ∃ x, hd z a = x := ⟨_, rfl⟩
      have hgx : GoodH x := by rw [← hx]; exact HGd.out _ (List.mem_of_getElem? (hd_get hal))
      have hzx := hd_get hal
      rw [hx] at hzx
      have HX := Lib.hid hx
      have HZX := Lib.hid hzx
      clear hx hzx
      have i0 : (0 : Int) ≤ (a : Int) := by omega
      have i1 : (a : Int) < (m : Int) := by omega
      have hWo := Lib.hid (fun W (hW : Pair2 68 w1' ta tb (k : Int) (k : Int) T T W) => (show Calls Try.prog 25 #[.pointer (some ⟨ta, 0, none⟩)] W _ from by obtain ⟨F, G, h1, _⟩ := hW; exact top_worst h1 hk4 (by rw [HN.out]; exact hTl)))
      have hNx := Lib.hid (fun B W hB hW Wd h => w_next (w := w1') (wr := Wd) (ta := ta) (tb := tb) (B := B) (W := W) hlt HM.out HX.out HT.out HTr.out (by rw [HN.out]; exact hTl) hB hW h)
      by_cases hk0 : k = 0
      · have hn0 : n = k := by omega
        have eW : worstV k T = -1 := by unfold worstV; simp [hk0]
        have eB : worstB k T = true := by unfold worstB; simp [hk0]
        have hout : (insH T x).take k = T ∧ x ∉ (insH T x).take k := by
          have : T = [] := List.eq_nil_of_length_eq_zero (by rw [HN.out]; omega)
          rw [this, hk0]; simp
        rw [eW, eB] at hWo
        have hWas2 := fun h => (HWas.out h).2
        rw [eW] at hWas2
        have HEW := Lib.hid eW
        have HEB := Lib.hid eB
        have HOut := Lib.hid hout
        have z1 : ((k : Int) == 0) = true := by simp; omega
        have z2 : decide ((0 : Int) < (k : Int)) = false := by simp; omega
        have z3 : decide (0 < k) = false := by simp; omega
        subst hn0
        clear eW eB hout hk0
        cases was
        · by_cases hab : -1 < x.d
          · go_wp2_with fail
            refine (hWo.out _ HPo.out).mono ?_
            rintro e w4 ⟨rfl, q4, rfl⟩
            have HP4 := Lib.hid (HPo.out.below ((Gr.refl wo).drewN q4).below)
            go_wp2_with fail
            refine (HP4.out.fst.list (by rw [HN.out]; omega)).mono ?_
            rintro e w5 ⟨l, rfl, ho5, hb5⟩
            have HP5 := Lib.hid (HP4.out.below hb5)
            rw [HN.out] at ho5
            obtain ⟨pl, cl, rfl, _⟩ := own_rd ho5
            obtain ⟨pa, hpa, u0, u1, u2⟩ := (hHid.out.below (HB1.out.trans (HP5.out.bel.mono HB1.out.size))) a _ HZX.out
            obtain rfl := hpa
            have hA := HP5.out.add hk4 (by rw [HN.out]; exact hTl) x hgx
            have hin : decide (x ∈ (insH T x).take n) = false := decide_eq_false HOut.out.2
            rw [hin] at hA
            have HA := Lib.hid hA
            clear hA ho5 hb5
            go_wp2_with fail
            refine HA.out.mono ?_
            rintro e w6 ⟨rfl, hP6⟩
            have HP6 := Lib.hid hP6
            clear hP6
            have HFin := Lib.hid (hNx.out true (-1) HEB.out HEW.out _ (pair_same HOut.out.1 HP6.out))
            clear u0 u1 u2
            go_wp2
            go_roundw
            case rel => exact HFin.out
            case measure => simp [intOf]; omega
          · have hab2 : x.d ≤ -1 := by omega
            have hab3 : decide (-1 < x.d) = false := by simp; omega
            go_wp2_with fail
            refine (hWo.out _ HPo.out).mono ?_
            rintro e w4 ⟨rfl, q4, rfl⟩
            have HP4 := Lib.hid (HPo.out.below ((Gr.refl wo).drewN q4).below)
            go_wp2_with fail
            refine (HP4.out.fst.list (by rw [HN.out]; omega)).mono ?_
            rintro e w5 ⟨l, rfl, ho5, hb5⟩
            have HP5 := Lib.hid (HP4.out.below hb5)
            rw [HN.out] at ho5
            obtain ⟨pl, cl, rfl, _⟩ := own_rd ho5
            obtain ⟨pa, hpa, u0, u1, u2⟩ := (hHid.out.below (HB1.out.trans (HP5.out.bel.mono HB1.out.size))) a _ HZX.out
            obtain rfl := hpa
            have hA := HP5.out.add hk4 (by rw [HN.out]; exact hTl) x hgx
            generalize decide (x ∈ (insH T x).take n) = bin at hA
            have HA := Lib.hid hA
            clear hA ho5 hb5
            go_wp2_with fail
            refine HA.out.mono ?_
            rintro e w6 ⟨rfl, hP6⟩
            have HP6 := Lib.hid hP6
            clear hP6
            obtain ⟨pb, hpb, u0', u1', u2'⟩ := (hHid.out.below (HB1.out.trans (HP6.out.bel.mono HB1.out.size))) a _ HZX.out
            obtain rfl : pa = pb := Option.some.inj hpb
            have hA2 := HP6.out.swap.add hk4 (by rw [HN.out]; exact hTl) x hgx
            generalize decide (x ∈ (insH T x).take n) = bin2 at hA2
            have HA2 := Lib.hid hA2
            clear hA2 u0 u1 u2 hpb
            go_wp2_with fail
            refine HA2.out.mono ?_
            rintro e w7 ⟨rfl, hP7⟩
            have HFin := Lib.hid (hNx.out true (-1) HEB.out HEW.out _ hP7.swap)
            clear hP7 u0' u1' u2'
            go_wp2
            go_roundw
            case rel => exact HFin.out
            case measure => simp [intOf]; omega
        · have hle := hWas2 rfl
          by_cases hab : -1 < x.d
          · go_wp2_with fail
            refine (hWo.out _ HPo.out).mono ?_
            rintro e w4 ⟨rfl, q4, rfl⟩
            have HP4 := Lib.hid (HPo.out.below ((Gr.refl wo).drewN q4).below)
            go_wp2_with fail
            refine (HP4.out.fst.list (by rw [HN.out]; omega)).mono ?_
            rintro e w5 ⟨l, rfl, ho5, hb5⟩
            have HP5 := Lib.hid (HP4.out.below hb5)
            rw [HN.out] at ho5
            obtain ⟨pl, cl, rfl, _⟩ := own_rd ho5
            obtain ⟨pa, hpa, u0, u1, u2⟩ := (hHid.out.below (HB1.out.trans (HP5.out.bel.mono HB1.out.size))) a _ HZX.out
            obtain rfl := hpa
            have hA := HP5.out.add hk4 (by rw [HN.out]; exact hTl) x hgx
            have hin : decide (x ∈ (insH T x).take n) = false := decide_eq_false HOut.out.2
            rw [hin] at hA
            have HA := Lib.hid hA
            clear hA ho5 hb5
            go_wp2_with fail
            refine HA.out.mono ?_
            rintro e w6 ⟨rfl, hP6⟩
            have HP6 := Lib.hid hP6
            clear hP6
            have HFin := Lib.hid (hNx.out true (-1) HEB.out HEW.out _ (pair_same HOut.out.1 HP6.out))
            clear u0 u1 u2
            go_wp2
            go_roundw
            case rel => exact HFin.out
            case measure => simp [intOf]; omega
          · have hab2 : x.d ≤ -1 := by omega
            have hab3 : decide (-1 < x.d) = false := by simp; omega
            go_wp2_with fail
            refine (hWo.out _ HPo.out).mono ?_
            rintro e w4 ⟨rfl, q4, rfl⟩
            have HP4 := Lib.hid (HPo.out.below ((Gr.refl wo).drewN q4).below)
            go_wp2_with fail
            refine (HP4.out.fst.list (by rw [HN.out]; omega)).mono ?_
            rintro e w5 ⟨l, rfl, ho5, hb5⟩
            have HP5 := Lib.hid (HP4.out.below hb5)
            rw [HN.out] at ho5
            obtain ⟨pl, cl, rfl, _⟩ := own_rd ho5
            obtain ⟨pa, hpa, u0, u1, u2⟩ := (hHid.out.below (HB1.out.trans (HP5.out.bel.mono HB1.out.size))) a _ HZX.out
            obtain rfl := hpa
            have hA := HP5.out.add hk4 (by rw [HN.out]; exact hTl) x hgx
            generalize decide (x ∈ (insH T x).take n) = bin at hA
            have HA := Lib.hid hA
            clear hA ho5 hb5
            go_wp2_with fail
            refine HA.out.mono ?_
            rintro e w6 ⟨rfl, hP6⟩
            have HP6 := Lib.hid hP6
            clear hP6
            obtain ⟨pb, hpb, u0', u1', u2'⟩ := (hHid.out.below (HB1.out.trans (HP6.out.bel.mono HB1.out.size))) a _ HZX.out
            obtain rfl : pa = pb := Option.some.inj hpb
            have hA2 := HP6.out.swap.add hk4 (by rw [HN.out]; exact hTl) x hgx
            generalize decide (x ∈ (insH T x).take n) = bin2 at hA2
            have HA2 := Lib.hid hA2
            clear hA2 u0 u1 u2 hpb
            go_wp2_with fail
            refine HA2.out.mono ?_
            rintro e w7 ⟨rfl, hP7⟩
            have HFin := Lib.hid (hNx.out true (-1) HEB.out HEW.out _ hP7.swap)
            clear hP7 u0' u1' u2'
            go_wp2
            go_roundw
            case rel => exact HFin.out
            case measure => simp [intOf]; omega
      · by_cases hfull : n < k
        · have eW : worstV k T = 0 := by unfold worstV; rw [if_neg hk0, HN.out, if_pos hfull]
          have eB : worstB k T = false := by unfold worstB; rw [HN.out]; simp; omega
          have hwf : was = false := by
            cases was
            · rfl
            · have := (HWas.out rfl).1; rw [eB] at this; cases this
          rw [eW, eB] at hWo
          have HEW := Lib.hid eW
          have HEB := Lib.hid eB
          clear eW eB
          subst hwf
          have z1 : ((n : Int) == (k : Int)) = false := by simp; omega
          have z2 : ((k : Int) == 0) = false := by simp; omega
          go_wp2_with fail
          refine (hWo.out _ HPo.out).mono ?_
          rintro e w4 ⟨rfl, q4, rfl⟩
          have HP4 := Lib.hid (HPo.out.below ((Gr.refl wo).drewN q4).below)
          go_wp2_with fail
          refine (HP4.out.fst.list (by rw [HN.out]; omega)).mono ?_
          rintro e w5 ⟨l, rfl, ho5, hb5⟩
          have HP5 := Lib.hid (HP4.out.below hb5)
          rw [HN.out] at ho5
          obtain ⟨pl, cl, rfl, _⟩ := own_rd ho5
          obtain ⟨pa, hpa, u0, u1, u2⟩ := (hHid.out.below (HB1.out.trans (HP5.out.bel.mono HB1.out.size))) a _ HZX.out
          obtain rfl := hpa
          have hA := HP5.out.add hk4 (by rw [HN.out]; exact hTl) x hgx
          generalize decide (x ∈ (insH T x).take k) = bin at hA
          have HA := Lib.hid hA
          clear hA ho5 hb5
          go_wp2_with fail
          refine HA.out.mono ?_
          rintro e w6 ⟨rfl, hP6⟩
          have HP6 := Lib.hid hP6
          clear hP6
          obtain ⟨pb, hpb, u0', u1', u2'⟩ := (hHid.out.below (HB1.out.trans (HP6.out.bel.mono HB1.out.size))) a _ HZX.out
          obtain rfl : pa = pb := Option.some.inj hpb
          have hA2 := HP6.out.swap.add hk4 (by rw [HN.out]; exact hTl) x hgx
          generalize decide (x ∈ (insH T x).take k) = bin2 at hA2
          have HA2 := Lib.hid hA2
          clear hA2 u0 u1 u2 hpb
          go_wp2_with fail
          refine HA2.out.mono ?_
          rintro e w7 ⟨rfl, hP7⟩
          have HFin := Lib.hid (hNx.out false (0) HEB.out HEW.out _ hP7.swap)
          clear hP7 u0' u1' u2'
          go_wp2
          go_roundw
          case rel => exact HFin.out
          case measure => simp [intOf]; omega
        · obtain ⟨j, hj⟩ : ∃ j, k = j + 1 := ⟨k - 1, by omega⟩
          have hnk : n = k := by omega
          obtain ⟨W, hWW⟩ : ∃ W, (hd T j).d = W := ⟨_, rfl⟩
          have eW : worstV k T = W := by unfold worstV; rw [if_neg hk0, HN.out, if_neg hfull, ← hWW, hj]; rfl
          have eB : worstB k T = true := by unfold worstB; rw [HN.out]; simp; omega
          have hout : W < x.d → (insH T x).take k = T ∧ x ∉ (insH T x).take k := fun hd' => by
            have h := above_out (x := x) HTr.out (by rw [HN.out, hnk, hj]) (by rw [hWW]; exact hd')
            rw [← hj] at h
            exact ⟨h.1, by rw [h.1]; exact h.2⟩
          have hjl : j < T.length := by rw [HN.out]; omega
          have HjT := Lib.hid (hd_get hjl)
          rw [eW, eB] at hWo
          have hWas2 := fun h => (HWas.out h).2
          rw [eW] at hWas2
          have HEW := Lib.hid eW
          have HEB := Lib.hid eB
          have HOut := Lib.hid hout
          have z2 : ((k : Int) == 0) = false := by simp; omega
          have z3 : (0 : Int) < (k : Int) := by omega
          have z4 : (k : Int) - 1 = (j : Int) := by omega
          have z5 : (j : Int) < (k : Int) := by omega
          have z6 : (0 : Int) ≤ (j : Int) := by omega
          have z7 : decide (0 < k) = true := by simp; omega
          have HWW := Lib.hid hWW
          have HJ := Lib.hid hj
          subst hnk
          clear eW eB hout hWW hj hfull hk0
          cases was
          · by_cases hab : W < x.d
            · go_wp2_with fail
              refine (hWo.out _ HPo.out).mono ?_
              rintro e w4 ⟨rfl, q4, rfl⟩
              have HP4 := Lib.hid (HPo.out.below ((Gr.refl wo).drewN q4).below)
              go_wp2_with fail
              refine (HP4.out.fst.list (by rw [HN.out]; omega)).mono ?_
              rintro e w5 ⟨l, rfl, ho5, hb5⟩
              have HP5 := Lib.hid (HP4.out.below hb5)
              rw [HN.out] at ho5
              obtain ⟨pl, cl, rfl, _⟩ := own_rd ho5
              obtain ⟨pj, hpj, l0, _, _⟩ := (HL.of_own ho5) j _ HjT.out
              obtain rfl := hpj
              rw [HWW.out] at l0
              obtain ⟨pa, hpa, u0, u1, u2⟩ := (hHid.out.below (HB1.out.trans (HP5.out.bel.mono HB1.out.size))) a _ HZX.out
              obtain rfl := hpa
              have hA := HP5.out.add hk4 (by rw [HN.out]; exact hTl) x hgx
              have hin : decide (x ∈ (insH T x).take n) = false := decide_eq_false (HOut.out hab).2
              rw [hin] at hA
              have HA := Lib.hid hA
              clear hA ho5 hb5
              go_wp2_with fail
              refine HA.out.mono ?_
              rintro e w6 ⟨rfl, hP6⟩
              have HP6 := Lib.hid hP6
              clear hP6 l0
              have HFin := Lib.hid (hNx.out true (W) HEB.out HEW.out _ (pair_same (HOut.out hab).1 HP6.out))
              clear u0 u1 u2
              go_wp2
              go_roundw
              case rel => exact HFin.out
              case measure => simp [intOf]; omega
            · have hab2 : x.d ≤ W := by omega
              have hab3 : decide (W < x.d) = false := by simp; omega
              go_wp2_with fail
              refine (hWo.out _ HPo.out).mono ?_
              rintro e w4 ⟨rfl, q4, rfl⟩
              have HP4 := Lib.hid (HPo.out.below ((Gr.refl wo).drewN q4).below)
              go_wp2_with fail
              refine (HP4.out.fst.list (by rw [HN.out]; omega)).mono ?_
              rintro e w5 ⟨l, rfl, ho5, hb5⟩
              have HP5 := Lib.hid (HP4.out.below hb5)
              rw [HN.out] at ho5
              obtain ⟨pl, cl, rfl, _⟩ := own_rd ho5
              obtain ⟨pj, hpj, l0, _, _⟩ := (HL.of_own ho5) j _ HjT.out
              obtain rfl := hpj
              rw [HWW.out] at l0
              obtain ⟨pa, hpa, u0, u1, u2⟩ := (hHid.out.below (HB1.out.trans (HP5.out.bel.mono HB1.out.size))) a _ HZX.out
              obtain rfl := hpa
              have hA := HP5.out.add hk4 (by rw [HN.out]; exact hTl) x hgx
              generalize decide (x ∈ (insH T x).take n) = bin at hA
              have HA := Lib.hid hA
              clear hA ho5 hb5
              go_wp2_with fail
              refine HA.out.mono ?_
              rintro e w6 ⟨rfl, hP6⟩
              have HP6 := Lib.hid hP6
              clear hP6 l0
              obtain ⟨pb, hpb, u0', u1', u2'⟩ := (hHid.out.below (HB1.out.trans (HP6.out.bel.mono HB1.out.size))) a _ HZX.out
              obtain rfl : pa = pb := Option.some.inj hpb
              have hA2 := HP6.out.swap.add hk4 (by rw [HN.out]; exact hTl) x hgx
              generalize decide (x ∈ (insH T x).take n) = bin2 at hA2
              have HA2 := Lib.hid hA2
              clear hA2 u0 u1 u2 hpb
              go_wp2_with fail
              refine HA2.out.mono ?_
              rintro e w7 ⟨rfl, hP7⟩
              have HFin := Lib.hid (hNx.out true (W) HEB.out HEW.out _ hP7.swap)
              clear hP7 u0' u1' u2'
              go_wp2
              go_roundw
              case rel => exact HFin.out
              case measure => simp [intOf]; omega
          · have hle := hWas2 rfl
            by_cases hab : W < x.d
            · go_wp2_with fail
              refine (hWo.out _ HPo.out).mono ?_
              rintro e w4 ⟨rfl, q4, rfl⟩
              have HP4 := Lib.hid (HPo.out.below ((Gr.refl wo).drewN q4).below)
              go_wp2_with fail
              refine (HP4.out.fst.list (by rw [HN.out]; omega)).mono ?_
              rintro e w5 ⟨l, rfl, ho5, hb5⟩
              have HP5 := Lib.hid (HP4.out.below hb5)
              rw [HN.out] at ho5
              obtain ⟨pl, cl, rfl, _⟩ := own_rd ho5
              obtain ⟨pj, hpj, l0, _, _⟩ := (HL.of_own ho5) j _ HjT.out
              obtain rfl := hpj
              rw [HWW.out] at l0
              obtain ⟨pa, hpa, u0, u1, u2⟩ := (hHid.out.below (HB1.out.trans (HP5.out.bel.mono HB1.out.size))) a _ HZX.out
              obtain rfl := hpa
              have hA := HP5.out.add hk4 (by rw [HN.out]; exact hTl) x hgx
              have hin : decide (x ∈ (insH T x).take n) = false := decide_eq_false (HOut.out hab).2
              rw [hin] at hA
              have HA := Lib.hid hA
              clear hA ho5 hb5
              go_wp2_with fail
              refine HA.out.mono ?_
              rintro e w6 ⟨rfl, hP6⟩
              have HP6 := Lib.hid hP6
              clear hP6 l0
              have HFin := Lib.hid (hNx.out true (W) HEB.out HEW.out _ (pair_same (HOut.out hab).1 HP6.out))
              clear u0 u1 u2
              go_wp2
              go_roundw
              case rel => exact HFin.out
              case measure => simp [intOf]; omega
            · have hab2 : x.d ≤ W := by omega
              have hab3 : decide (W < x.d) = false := by simp; omega
              go_wp2_with fail
              refine (hWo.out _ HPo.out).mono ?_
              rintro e w4 ⟨rfl, q4, rfl⟩
              have HP4 := Lib.hid (HPo.out.below ((Gr.refl wo).drewN q4).below)
              go_wp2_with fail
              refine (HP4.out.fst.list (by rw [HN.out]; omega)).mono ?_
              rintro e w5 ⟨l, rfl, ho5, hb5⟩
              have HP5 := Lib.hid (HP4.out.below hb5)
              rw [HN.out] at ho5
              obtain ⟨pl, cl, rfl, _⟩ := own_rd ho5
              obtain ⟨pj, hpj, l0, _, _⟩ := (HL.of_own ho5) j _ HjT.out
              obtain rfl := hpj
              rw [HWW.out] at l0
              obtain ⟨pa, hpa, u0, u1, u2⟩ := (hHid.out.below (HB1.out.trans (HP5.out.bel.mono HB1.out.size))) a _ HZX.out
              obtain rfl := hpa
              have hA := HP5.out.add hk4 (by rw [HN.out]; exact hTl) x hgx
              generalize decide (x ∈ (insH T x).take n) = bin at hA
              have HA := Lib.hid hA
              clear hA ho5 hb5
              go_wp2_with fail
              refine HA.out.mono ?_
              rintro e w6 ⟨rfl, hP6⟩
              have HP6 := Lib.hid hP6
              clear hP6 l0
              obtain ⟨pb, hpb, u0', u1', u2'⟩ := (hHid.out.below (HB1.out.trans (HP6.out.bel.mono HB1.out.size))) a _ HZX.out
              obtain rfl : pa = pb := Option.some.inj hpb
              have hA2 := HP6.out.swap.add hk4 (by rw [HN.out]; exact hTl) x hgx
              generalize decide (x ∈ (insH T x).take n) = bin2 at hA2
              have HA2 := Lib.hid hA2
              clear hA2 u0 u1 u2 hpb
              go_wp2_with fail
              refine HA2.out.mono ?_
              rintro e w7 ⟨rfl, hP7⟩
              have HFin := Lib.hid (hNx.out true (W) HEB.out HEW.out _ hP7.swap)
              clear hP7 u0' u1' u2'
              go_wp2
              go_roundw
              case rel => exact HFin.out
              case measure => simp [intOf]; omega
    · obtain rfl : a = m := by omega
      go_wp2_with fail
      refine (HPo.out.fst.list (by rw [HN.out]; omega)).mono ?_
      rintro e w4 ⟨l, rfl, ho4, hb4⟩
      have HP4 := Lib.hid (HPo.out.below hb4)
      obtain ⟨pl, cl, rfl, _⟩ := own_rd ho4
      have HL4 := Lib.hid (HL.of_own ho4)
      clear ho4 hb4
      go_wp2_with fail
      refine (HP4.out.swap.fst.list (by rw [HN.out]; omega)).mono ?_
      rintro e w5 ⟨l2, rfl, ho5, hb5⟩
      have HP5 := Lib.hid (HP4.out.below hb5)
      have HL45 := Lib.hid (HL4.out.below hb5)
      obtain ⟨pl2, cl2, rfl, _⟩ := own_rd ho5
      have HL5 := Lib.hid (HL.of_own ho5)
      clear ho5 hb5
      go_wp2_with fail
      refine (same_calls pl pl2 cl cl2 T (by rw [HN.out]; omega) w5 HL45.out HL5.out).mono ?_
      rintro e w6 ⟨rfl, hg6⟩
      have HE := Lib.hid (HB1.out.trans (((HP5.out.below hg6.below).bel).mono HB1.out.size))
      clear hg6
      go_wp2
      go_ret
      exact ⟨rfl, HE.out⟩
end Go.Proofs.Ytahceakghgmpkaa

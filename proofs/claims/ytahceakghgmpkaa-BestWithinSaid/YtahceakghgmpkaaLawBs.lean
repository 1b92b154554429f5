/-
  THE LAW BestSet, walked: a top keeps the first k of the set of hits.
-/
import Derived.Test.YtahceakghgmpkaaArgHb
namespace Go.Proofs.Ytahceakghgmpkaa
open Go.RowKit ArgK
set_option linter.unusedVariables false

theorem own_frp {w w' : World} {F : Nat → Prop} {base : Nat} {e : TypeId} {size : Nat} {v : Value} {n : Nat} {xs : List Value} (h : w.ownsRow base e size v n xs) (hf : FrP w w' F) (hd : ∀ g, v.ownBlock = some g → ¬ F g) : w'.ownsRow base e size v n xs := by
  refine ⟨h.1, ?_⟩
  rcases h.2 with hn | ⟨g, cap, cur, rfl, hbg, hg, rest⟩
  · exact .inl hn
  · exact .inr ⟨g, cap, cur, rfl, hbg, (hf.2.2.2.2 g (Array.getElem?_eq_some_iff.1 hg).1 (hd g rfl)).trans hg, rest⟩

/-- A top of the call's own beside a list that it answered: they share nothing. -/
def Beside (w : World) (tb : Nat) (k : Int) (T : List Hv) (l : Value) (n : Nat) (Z : List Hv) (wr : World) : Prop :=
  ∃ F, Heap1 68 wr tb k T F ∧ Below w.heap.size w wr ∧ (∀ b, F b → w.heap.size ≤ b) ∧ wr.ownsRow 0 34 3 l n (encH Z) ∧ ∀ g, l.ownBlock = some g → ¬ F g

theorem Beside.start {w w1 w2 : World} {tb : Nat} {k : Int} {T Z : List Hv} {l : Value} {n : Nat} (h : Owned 68 w tb k T w1) (hb : Below w1.heap.size w1 w2) (ho : w2.ownsRow w1.heap.size 34 3 l n (encH Z)) : Beside w tb k T l n Z w2 := by
  obtain ⟨F, h1, h2, h3⟩ := h
  exact ⟨F, h1.below hb, h2.trans (hb.mono h2.size), h3, own_le ho (Nat.zero_le _), fun g hg hF => by have := (ho.lt g hg).1; have := h1.lt g hF; omega⟩

theorem Beside.below {w w1 w2 : World} {tb : Nat} {k : Int} {T Z : List Hv} {l : Value} {n : Nat} (h : Beside w tb k T l n Z w1) (hb : Below w1.heap.size w1 w2) : Beside w tb k T l n Z w2 := by
  obtain ⟨F, h1, h2, h3, h4, h5⟩ := h
  exact ⟨F, h1.below hb, h2.trans (hb.mono h2.size), h3, own_belowAll h4 hb, h5⟩

theorem Beside.owned {w w1 : World} {tb : Nat} {k : Int} {T Z : List Hv} {l : Value} {n : Nat} (h : Beside w tb k T l n Z w1) : Owned 68 w tb k T w1 := by
  obtain ⟨F, h1, h2, h3, _⟩ := h
  exact ⟨F, h1, h2, h3⟩

theorem Beside.add {w w1 : World} {tb k : Nat} {T Z : List Hv} {l : Value} {n : Nat} (h : Beside w tb (k : Int) T l n Z w1) (hk : k ≤ 4096) (hl : T.length ≤ k) (x : Hv) (hg : GoodH x) :
    Calls Try.prog 22 #[.pointer (some ⟨tb, 0, none⟩), x.val] w1 fun e w2 => e = .returned (.bool (decide (x ∈ (insH T x).take k))) ∧ Beside w tb (k : Int) ((insH T x).take k) l n Z w2 := by
  obtain ⟨F, h1, h2, h3, h4, h5⟩ := h
  refine (top_add h1 hk hl x hg).mono ?_
  rintro e w2 ⟨he, F', k1, k2, k3⟩
  refine ⟨he, F', k1, h2.trans (k2.below h2.size h3), fun b hb => ?_, own_frp h4 k2 h5, fun g hg hF => ?_⟩
  · rcases k3 b hb with h | h
    · exact h3 b h
    · exact Nat.le_trans h2.size h
  · rcases k3 g hF with h | h
    · exact h5 g hg h
    · have := (h4.lt g hg).2; omega

/-- A hit that was handed in once, once more. -/
theorem again_top {H : List Hv} {k : Nat} {x : Hv} (hx : x ∈ H) : (insH ((allH H).take k) x).take k = (allH H).take k := by
  rw [← top_snoc, allH_perm (H := H ++ [x]) (M := H)]
  intro y
  simp only [List.mem_append, List.mem_singleton]
  exact ⟨fun h => h.elim id (fun e => e ▸ hx), .inl⟩

set_option maxRecDepth 100000 in
set_option maxHeartbeats 4000000 in
theorem BestSet_walk (a0 : Int) (w0 : (Lit.int .i64 a0).wf = true) (v : Value) (z : List Hv) (w : World) (h1 : IsSl w 3 32 IsHit [v] z) :
    Calls Try.prog 5 #[.int .i64 a0, v] w fun e w' => e = .returned (.bool true) ∧ Below w.heap.size w w' := by
  obtain ⟨hsz, p, cap, rfl, hHL, hgood⟩ := hits_of_arg h1
  obtain ⟨m, hm⟩ : ∃ m, z.length = m := ⟨_, rfl⟩
  obtain ⟨k, hk⟩ : ∃ k, fitI a0 = k := ⟨_, rfl⟩
  have hk4 : k ≤ 4096 := by rw [← hk]; exact fitI_le a0
  have hFit := fun W => fit_calls a0 W
  rw [hk] at hFit
  have hFw := Lib.hid (fun W hW => handed_fwd p cap z k hk4 (by omega) hgood W hW)
  have hBk := Lib.hid (fun W hW => handed_back p cap z k hk4 (by omega) hgood W hW)
  have hFst := Lib.hid (fun pz cz W hW1 hW2 => first_calls pz p cz cap ((allH z).take k) z k (by omega) (by omega) (firstIs_take z k) W hW1 hW2)
  have hHid := Lib.hid hHL
  have hGd := Lib.hid hgood
  obtain ⟨T, hT⟩ : ∃ T, (allH z).take k = T := ⟨_, rfl⟩
  have hTl : T.length ≤ k := by rw [← hT]; simp; omega
  have hAg : ∀ x, x ∈ z → (insH T x).take k = T := fun x hx => by rw [← hT]; exact again_top hx
  have HAg := Lib.hid hAg
  obtain ⟨n, hn⟩ : ∃ n, T.length = n := ⟨_, rfl⟩
  rw [hT] at hFw hBk hFst
  rw [hn] at hFst hTl
  rw [hm] at hFw hBk hFst hsz ⊢
  have HN := Lib.hid hn
  have HM := Lib.hid hm
  have HFit := Lib.hid hFit
  clear h1 hHL hgood hk hT hAg hFit hn hm
  go_enter Try.func5, Try.ntmps5
  go_wp2_with fail
  refine (begun_calls w).mono ?_
  rintro e w1 ⟨rfl, hb1⟩
  have HB1 := Lib.hid hb1
  clear hb1
  go_wp2_with fail
  refine (HFit.out _).mono ?_
  rintro e w1' ⟨rfl, rfl⟩
  go_wp2_with fail
  refine (hFw.out _ (hHid.out.below HB1.out)).mono ?_
  rintro e w2 ⟨ta, rfl, hO2⟩
  have HB2 : Below w.heap.size w w2 := by obtain ⟨_, _, h, _⟩ := hO2; exact HB1.out.trans (h.mono HB1.out.size)
  have HO2 := Lib.hid hO2
  have HHB2 := Lib.hid HB2
  clear hO2 HB2
  go_wp2_with fail
  refine (hBk.out _ (hHid.out.below HHB2.out)).mono ?_
  rintro e w3 ⟨tb, rfl, hO3⟩
  have HO3 := Lib.hid hO3
  have HA3 : Hid (Owned 68 w1' ta (k : Int) T w3) := Lib.hid (by obtain ⟨_, _, h, _⟩ := hO3; exact HO2.out.below h)
  clear hO3
  go_wp2_with fail
  refine (HA3.out.list (by rw [HN.out]; omega)).mono ?_
  rintro e w4 ⟨l, rfl, ho4, hb4⟩
  have HBe := Lib.hid (Beside.start HA3.out hb4 ho4)
  have HO4 := Lib.hid (HO3.out.below hb4)
  obtain ⟨pl, cl, rfl, _⟩ := own_rd ho4
  have HL4 := Lib.hid (HL.of_own ho4)
  clear ho4 hb4
  go_wp2_with fail
  refine (HO4.out.list (by rw [HN.out]; omega)).mono ?_
  rintro e w5 ⟨l2, rfl, ho5, hb5⟩
  obtain ⟨pl2, cl2, rfl, _⟩ := own_rd ho5
  have HL5 := Lib.hid (HL.of_own ho5)
  have HBe5 := Lib.hid (HBe.out.below hb5)
  have HL45 := Lib.hid (HL4.out.below hb5)
  rw [HN.out] at HBe5
  clear ho5 hb5
  go_wp2_with fail
  refine (same_calls pl pl2 cl cl2 T (by rw [HN.out]; omega) w5 HL45.out HL5.out).mono ?_
  rintro e w6 ⟨rfl, hg6⟩
  have HBe6 := Lib.hid (HBe5.out.below hg6.below)
  have HL6 := Lib.hid (HL45.out.gr hg6)
  have HH6 := Lib.hid (hHid.out.below (by obtain ⟨_, _, h, _⟩ := HBe6.out; exact HB1.out.trans (h.mono HB1.out.size)))
  clear hg6
  go_wp2_with fail
  rw [HN.out]
  refine (hFst.out pl cl _ HL6.out HH6.out).mono ?_
  rintro e w7 ⟨rfl, hg7⟩
  have HBe7 := Lib.hid (HBe6.out.below hg7.below)
  clear hg7
  go_wp2
  go_loopw [11] (fun i ws => ∃ a : Nat, a ≤ m ∧ i = .int .i64 a ∧ Beside w1' ta (k : Int) T (.slice pl n cl) n T ws) (fun i _ => m - (intOf i).toNat)
  case atStart => exact ⟨0, Nat.zero_le _, rfl, HBe7.out⟩
  case round =>
    obtain ⟨a, ha, rfl, hBe⟩ := hrel
    obtain ⟨wo, rfl⟩ : ∃ wo : World, wo = wr := ⟨_, rfl⟩
    have HBo := Lib.hid hBe
    have hHo := hHid.out.below (w' := wo) (by obtain ⟨_, _, h, _⟩ := hBe; exact HB1.out.trans (h.mono HB1.out.size))
    clear hBe
    by_cases hlt : a < m
    · have hal : a < z.length := by rw [HM.out]; exact hlt
      obtain ⟨pa, hpa, u0, u1, u2⟩ := hHo a _ (hd_get hal)
      obtain rfl := hpa
      have hxm : hd z a ∈ z := List.mem_of_getElem? (hd_get hal)
      have i0 : (0 : Int) ≤ (a : Int) := by omega
      have i1 : (a : Int) < (m : Int) := by omega
      have hA := HBo.out.add hk4 (by rw [HN.out]; exact hTl) (hd z a) (hGd.out _ hxm)
      rw [HAg.out _ hxm] at hA
      have HA := Lib.hid hA
      clear hA hxm hHo
      go_wp2_with fail
      refine HA.out.mono ?_
      rintro e w8 ⟨rfl, hB8⟩
      have HB8 := Lib.hid hB8
      clear hB8
      go_wp2
      go_roundw
      case rel => exact ⟨a + 1, by omega, by go_num, HB8.out⟩
      case measure => simp [intOf]; omega
    · obtain rfl : a = m := by omega
      clear hHo
      go_wp2_with fail
      refine (HBo.out.owned.list (by rw [HN.out]; omega)).mono ?_
      rintro e w9 ⟨l3, rfl, ho9, hb9⟩
      obtain ⟨pl3, cl3, rfl, _⟩ := own_rd ho9
      have HL9 := Lib.hid (HL.of_own ho9)
      have HB9 := Lib.hid (HBo.out.below hb9)
      clear ho9 hb9
      have HLa : Hid (HL w9 pl T) := Lib.hid (by obtain ⟨_, _, _, _, h, _⟩ := HB9.out; rw [← HN.out] at h; exact HL.of_own h)
      go_wp2_with fail
      have S := same_calls pl pl3 cl cl3 T (by rw [HN.out]; omega) w9 HLa.out HL9.out
      rw [HN.out] at S
      rw [HN.out]
      refine S.mono ?_
      rintro e w10 ⟨rfl, hg10⟩
      have hEnd : Below w.heap.size w w10 := by
        obtain ⟨_, _, h, _⟩ := HB9.out.below hg10.below
        exact HB1.out.trans (h.mono HB1.out.size)
      have HE := Lib.hid hEnd
      clear hEnd hg10 S
      go_wp2
      go_ret
      exact ⟨rfl, HE.out⟩
end Go.Proofs.Ytahceakghgmpkaa

/-
  PLAIN LAWS: whole texts, with something behind them, and cut ones.
-/
import Derived.Test.YtabhjkaheghbhaaFwd2
import Derived.Test.YtabhjkaheghbhaaTellX
import Derived.Laws.Strings
namespace Go.Proofs.Ytabhjkaheghbhaa
open Go.RowKit
set_option linter.unusedVariables false

theorem cut_two {P R T y : List UInt8} (h : P ++ R = T ++ y) (hy : y ≠ []) : (∃ T', T = P ++ T' ∧ R = T' ++ y) ∨ (∃ y', y' ≠ [] ∧ P = T ++ y') := by
  rcases List.append_eq_append_iff.1 h with ⟨cs, h1, h2⟩ | ⟨bs, h1, h2⟩
  · exact .inl ⟨cs, h1, h2⟩
  · by_cases hb : bs = []
    · subst hb
      exact .inl ⟨[], by rw [h1, List.append_nil, List.append_nil], by rw [h2, List.nil_append, List.nil_append]⟩
    · exact .inr ⟨bs, hb, h1⟩
/-- A reader on a cut text: it fell short, or L is what stands there and what was cut. -/
def CutS (b : ByteArray) (s : St) (L y : List UInt8) : Prop := s = .error 31 ∨ ∃ a, s = .ok a ∧ a ≤ b.size ∧ L = tl b a ++ y
def CutV {α : Type} (b : ByteArray) (r : St × α) (v0 v : α) (L y : List UInt8) : Prop := r = (.error 31, v0) ∨ ∃ a, r = (.ok a, v) ∧ a ≤ b.size ∧ L = tl b a ++ y
theorem CutV.s {α : Type} {b : ByteArray} {r : St × α} {v0 v : α} {L y : List UInt8} (h : CutV b r v0 v L y) : CutS b r.1 L y := by
  rcases h with rfl | ⟨a, rfl, h1, h2⟩
  · exact .inl rfl
  · exact .inr ⟨a, rfl, h1, h2⟩
theorem CutS.fin {b : ByteArray} {s : St} {y : List UInt8} (h : CutS b s [] y) (hy : y ≠ []) : pEnd b s = 31 := by
  rcases h with rfl | ⟨a, _, _, h⟩
  · rfl
  · exact absurd (List.append_eq_nil_iff.1 h.symm).2 hy
theorem CutS.num {b : ByteArray} {s : St} {n : Int} {R y : List UInt8} {most : Nat} {E : Int} (h : CutS b s (vNum n ++ R) y) (hy : y ≠ []) (hm : most ≤ 9223372036854775807) (h0 : 0 ≤ n) (h1 : n ≤ most) : CutV b (pNum b most E s) 0 n R y := by
  rcases h with rfl | ⟨a, rfl, ha, h⟩
  · exact .inl rfl
  · rcases cut_two h hy with ⟨T', h2, h3⟩ | ⟨y', hy', h2⟩
    · obtain ⟨e, t⟩ := pNum_fwd (E := E) hm h0 h1 ha h2
      exact .inr ⟨_, e, pNum_ok e, by rw [t]; exact h3⟩
    · exact .inl (pNum_short h0 (by omega) ha h2 hy')
theorem CutS.text {b : ByteArray} {s : St} {c : ByteArray} {R y : List UInt8} (h : CutS b s (vNum c.size ++ c.data.toList ++ R) y) (hy : y ≠ []) (hc : c.size ≤ 65536) : CutV b (pText b s) ⟨#[]⟩ c R y := by
  rcases h with rfl | ⟨a, rfl, ha, h⟩
  · exact .inl rfl
  · rcases cut_two h hy with ⟨T', h2, h3⟩ | ⟨y', hy', h2⟩
    · obtain ⟨e, t⟩ := pText_fwd hc ha h2
      refine .inr ⟨_, e, ?_, by rw [t]; exact h3⟩
      have hl := congrArg List.length h2
      have htl : (tl b a).length = b.size - a := by unfold tl; rw [List.length_drop, size_len]
      have hcl : c.data.toList.length = c.size := rfl
      rw [htl, List.length_append, List.length_append, hcl] at hl
      have hp : 1 ≤ (vNum c.size).length := by
        unfold vNum varB
        by_cases h : (IntKind.u64.wrap (c.size : Int)).toNat < 128
        · rw [varF_low _ _ h]; simp
        · rw [varF_high _ _ h]; simp
      omega
    · exact .inl (pText_short hc ha h2 hy')
theorem hitR_cut {b : ByteArray} {p : Option Hv} {s : St} {x : Hv} {R y : List UInt8} (hy : y ≠ []) (h1 : 0 ≤ x.d ∧ x.d ≤ 9223372036854775807) (h2 : 0 ≤ x.i ∧ x.i ≤ 9223372036854775807) (h3 : x.c.size ≤ 65536) (hp : ∀ y, p = some y → behB y x = true) (h : CutS b s (hitB x ++ R) y) :
    (hitR b p s).1 = .error 31 ∨ ∃ a, hitR b p s = (.ok a, x) ∧ a ≤ b.size ∧ R = tl b a ++ y := by
  unfold hitB at h
  rw [List.append_assoc, List.append_assoc, List.append_assoc] at h
  have k1 := CutS.num (E := 13) (most := 9223372036854775807) h hy (by decide) h1.1 h1.2
  have k2 := CutS.num (E := 13) (most := 9223372036854775807) k1.s hy (by decide) h2.1 h2.2
  have k2' := k2.s
  rw [← List.append_assoc] at k2'
  have k3 := CutS.text k2' hy h3
  have e2 : CutV b (pText b (aNum b (aNum b s).1).1) ⟨#[]⟩ x.c R y := k3
  rcases e2 with e2 | ⟨a, e2, ha, hr⟩
  · left
    unfold hitR
    rw [e2]
  · have f2 : (aNum b (aNum b s).1).2 = x.i := by
      rcases (show CutV b (aNum b (aNum b s).1) 0 x.i _ y from k2) with e | ⟨_, e, _⟩
      · rw [e] at e2
        exact absurd (congrArg Prod.fst e2) (by unfold pText pNum; simp)
      · rw [e]
    have f1 : (aNum b s).2 = x.d := by
      rcases (show CutV b (aNum b s) 0 x.d _ y from k1) with e | ⟨_, e, _⟩
      · rw [e] at e2
        exact absurd (congrArg Prod.fst e2) (by unfold aNum pText pNum; simp)
      · rw [e]
    right
    refine ⟨a, ?_, ha, hr⟩
    unfold hitR
    simp only [e2, f1, f2]
    cases p with
    | none => rfl
    | some y => simp only [hp y rfl, if_true]
theorem pLoop_cut {b : ByteArray} {z : List Hv} {y : List UInt8} (hv : Goes z) (hy : y ≠ []) : ∀ (m k : Nat) (s : St) (R : List UInt8), k + m = z.length → CutS b s (hitsB (z.drop k) ++ R) y → CutS b (pLoop b m s (z.take k)).1 R y
  | 0, k, s, R, hk, h => by
    have hd : z.drop k = [] := List.drop_eq_nil_iff.2 (by omega)
    rw [hd] at h
    exact h
  | m + 1, k, s, R, hk, h => by
    have hkl : k < z.length := by omega
    obtain ⟨x, hx⟩ : ∃ x, z[k]? = some x := ⟨_, List.getElem?_eq_getElem hkl⟩
    have hxe : z[k]'hkl = x := by rw [List.getElem?_eq_getElem hkl] at hx; exact Option.some.inj hx
    have hd : hitsB (z.drop k) = hitB x ++ hitsB (z.drop (k + 1)) := by
      rw [List.drop_eq_getElem_cons hkl, hxe]
      simp [hitsB]
    rcases h with rfl | ⟨a, rfl, ha, h⟩
    · rw [pLoop_err]; exact .inl rfl
    rw [hd, List.append_assoc] at h
    obtain ⟨o1, o2, o3, o4⟩ := hv k x hx
    have hp : ∀ y, (z.take k).getLast? = some y → behB y x = true := by
      intro y hy
      cases k with
      | zero => simp at hy
      | succ j =>
        rw [List.getLast?_eq_getElem?, List.length_take, Nat.min_eq_left (by omega), Nat.add_sub_cancel, List.getElem?_take_of_lt (by omega)] at hy
        unfold outO at o1
        simp only [hy, hx] at o1
        cases hb : behB y x with
        | true => rfl
        | false => rw [hb] at o1; cases o1
    rw [pLoop_step]
    rcases hitR_cut hy o2 o3 o4 hp (.inr ⟨a, rfl, ha, h⟩) with e | ⟨a', e, ha', hr⟩
    · rw [e, pLoop_err]; exact .inl rfl
    · rw [e]
      simp only
      have htk : z.take k ++ [x] = z.take (k + 1) := by rw [List.take_add_one, hx]; rfl
      rw [htk]
      exact pLoop_cut hv hy m (k + 1) _ R (by omega) (.inr ⟨a', rfl, ha', hr⟩)
theorem pHits_cut {b : ByteArray} {z : List Hv} {y R : List UInt8} {s : St} (hv : Goes z) (hl : z.length ≤ 65536) (hy : y ≠ []) (h : CutS b s (vNum z.length ++ hitsB z ++ R) y) : CutS b (pHits b s).1 R y := by
  rw [List.append_assoc] at h
  rcases CutS.num (E := 43) (most := 65536) h hy (by decide) (by omega) (by omega) with e | ⟨a, e, ha, hr⟩
  · unfold pHits
    rw [e]
    exact .inl (by rw [pLoop_err])
  · unfold pHits
    rw [e]
    simp only [Int.toNat_natCast]
    exact pLoop_cut hv hy z.length 0 (.ok a) R (by omega) (.inr ⟨a, rfl, ha, by simpa using hr⟩)
theorem toList_nil {t : ByteArray} (h : t.toList.isEmpty = true) : t = ⟨#[]⟩ := by
  rw [ByteArray.toList_eq] at h
  exact ByteArray.ext (Array.toList_inj.1 (List.isEmpty_iff.1 h))
theorem zeroB_true {n : Int} {t : ByteArray} {m : Nat} (h : zeroB n t m = true) : n = 0 ∧ t = ⟨#[]⟩ ∧ m = 0 := by
  unfold zeroB at h
  simp only [Bool.and_eq_true] at h
  exact ⟨by simpa using h.1.1, toList_nil h.1.2, by simpa using h.2⟩
end Go.Proofs.Ytabhjkaheghbhaa

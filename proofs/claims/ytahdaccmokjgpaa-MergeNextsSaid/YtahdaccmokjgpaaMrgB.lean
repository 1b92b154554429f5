/-
  WALKS: a merger asks a source (whole); begin.
-/
import Derived.Test.YtahdaccmokjgpaaMrgA
namespace Go.Proofs.Ytahdaccmokjgpaa
open Go.RowKit ArgK
set_option linter.unusedVariables false

/-- A source is asked. -/
theorem ask_calls {B : Nat} {T : List TypeId} {fs : List Value} {I : World → List Sst → Prop} (hF : FeedLaw B T fs I) {w : World} {mb hb : Nat} {sv v lv : Value} {bottom begun : Bool} {code : Int} {L : List Hdv} {S : List Sst} {i : Nat} {st : Sst}
    (hM : MrgIs w B mb hb sv fs bottom begun code) (hP : PileD w B hb v L) (hH : HeapG abv L) (hI : I w S) (hs : S[i]? = some st) (hu : st.used ≤ st.es.length) (hn : fs.length ≤ 1024) (hL : L.length ≤ 1000000) (hB : B ≤ w.heap.size) (hl : LastIs w lv st.last) :
    Calls Try.prog 53 #[.pointer (some ⟨mb, 0, none⟩), .int .i64 i, lv] w (AskPost w B T hb v L I S i st) := by
  cases hm : st.mute with
  | true => exact ask_mute hF hM hP hH hI hs hm hn
  | false =>
    obtain ⟨f, b, fv, hfs, hsh, hen, hC⟩ := hF.live hI hs hm hu
    have hil := (List.getElem?_eq_some_iff.1 hfs).1
    obtain ⟨g, c, rfl, hc1⟩ : ∃ g c, sv = .slice (some ⟨g, 0, none⟩) fs.length c ∧ w.cell? ⟨g, i, none⟩ = some fv := by
      obtain ⟨p, c, rfl, _, _, hr⟩ := own_rd hM.row
      obtain ⟨g, rfl, _, _, hcs, _⟩ := hr (by omega)
      refine ⟨g, c, rfl, ?_⟩
      rw [hcs i (by omega)]
      exact hfs
    obtain ⟨c0, _⟩ := hM.cells
    have HPW : ∀ w1, Kp B T w w1 → ∀ W, Below w1.heap.size w1 W → PileD W B hb v L := fun w1 hk W hW => (hP.kp2 hk hF.tok).keep (T := []) (Kp.of_below (B := B) hW) (by simp) (by simp)
    have HMW : ∀ w1, Kp B T w w1 → ∀ W, Below w1.heap.size w1 W → MrgIs W B mb hb (.slice (some ⟨g, 0, none⟩) fs.length c) fs bottom begun code := fun w1 hk W hW => (hM.kp hk hF.tok).fm (X := []) (T := []) (Fm.of_below (B := B) hW) ⟨by simp, by simp, by simp, by simp, by simp⟩ (by simp) (by simp)
    have hIW : ∀ w1, I w1 (S.set i st.next) → ∀ W, Below w1.heap.size w1 W → I W (S.set i st.next) := fun w1 h W hW => hF.keep h (Kp.of_below hW)
    have HE : ∀ k, st.asked = (st.next, k, none) → ∀ w1, (I w1 (S.set i st.next) ∧ Kp B T w w1) → ∀ W, Below w1.heap.size w1 W → AskPost w B T hb v L I S i st (.returned (.int .i64 k)) W := fun k e w1 ⟨h1, hk⟩ W hW =>
      ⟨by rw [e], by rw [e]; exact hIW w1 h1 W hW, v, L, HPW w1 hk W hW, hH, by rw [e], MK.of_kp (hk.trans (Kp.of_below hW))⟩
    have HQ : ∀ x : Ent, st.asked = (st.next, 0, some x) → ∀ w1, (I w1 (S.set i st.next) ∧ Kp B T w w1) → ∀ W, Below w1.heap.size w1 W →
        Calls Try.prog 56 #[.iface 82 (.pointer (some ⟨hb, 0, none⟩)), .iface 100 (Hdv.mk x i).val] W fun e w' => e = .returned (.tuple #[]) ∧ AskPost w B T hb v L I S i st (.returned (.int .i64 0)) w' := fun x e w1 ⟨h1, hk⟩ W hW => by
      have hPW := HPW w1 hk W hW
      refine (HPush_calls hPW hH hL (Nat.le_trans hB (Nat.le_trans hk.size hW.size)) ⟨x, i⟩).mono ?_
      rintro e' W' ⟨h0, v', L', k1, k2, k3, k4⟩
      refine ⟨h0, by rw [e], ?_, v', L', k1, k2, by rw [e]; exact k3, (MK.of_kp (hk.trans (Kp.of_below hW))).trans (MK.of_pk k4)⟩
      rw [e]
      exact hF.keep (hIW w1 h1 W hW) ((hPW.kp k4).mono (Nat.le_refl _) (by unfold mTypes; simp))
    have hasked : st.asked = match st.es[st.used]? with
      | none => (st.next, st.fin, none)
      | some e => match st.last with
        | none => (st.next, 0, some e)
        | some l => if eless l e then (st.next, 0, some e) else (st.next, 50, none) := by
      unfold Sst.asked
      simp only [hm, Bool.false_eq_true, if_false]
      rfl
    have hans : st.ans = match st.es[st.used]? with
      | some e => (e, true, 0)
      | none => (zeroE, false, st.fin) := rfl
    cases ho : st.es[st.used]? with
    | none =>
      rw [ho] at hasked hans
      rw [hans] at hC
      exact ask_end_walk (R := fun w1 => I w1 (S.set i st.next) ∧ Kp B T w w1) hsh hen c0 hc1 hn hil hC (HE _ hasked)
    | some x =>
      rw [ho] at hasked hans
      rw [hans] at hC
      rcases hl with ⟨hl, rfl⟩ | ⟨y, lb, kk, hl, rfl, hlb⟩
      · simp only [hl] at hasked
        exact ask_first_walk (hb := hb) (R := fun w1 => I w1 (S.set i st.next) ∧ Kp B T w w1) (P := fun w' => AskPost w B T hb v L I S i st (.returned (.int .i64 0)) w') hsh hen c0 hc1 hn hil hC
          (fun w1 hk o => (HMW w1 hk.2 _ ((Below.refl _ _).alloc (Nat.le_refl _) o)).cells.2.2.2.1) (HQ x hasked) (fun W h => h)
      · simp only [hl] at hasked
        exact ask_next_walk (hb := hb) (R := fun w1 => I w1 (S.set i st.next) ∧ Kp B T w w1) (P := fun w' => AskPost w B T hb v L I S i st (.returned (.int .i64 0)) w') hsh hen c0 hc1 hn hil hC
          (fun w1 hk W hW => (HMW w1 hk.2 W hW).cells.2.2.2.1)
          (fun w1 hk W hW => by
            have h := hk.2.box hlb (.inl hF.tok.c)
            exact (hW.block lb (Array.getElem?_eq_some_iff.1 h).1).trans h)
          (fun he => HQ x (by rw [hasked, if_pos he])) (fun he W h => h) (fun he => HE 50 (by rw [hasked, if_neg he]))
end Go.Proofs.Ytahdaccmokjgpaa

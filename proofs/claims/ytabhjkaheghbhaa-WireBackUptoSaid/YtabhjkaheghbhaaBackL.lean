/-
  PLAIN LAWS for WireBack: what is told of a request and of a reply that were written.
-/
import Derived.Test.YtabhjkaheghbhaaBackQ
import Derived.Test.YtabhjkaheghbhaaTellArg
namespace Go.Proofs.Ytabhjkaheghbhaa
open Go.RowKit
set_option linter.unusedVariables false

/-- What is told of the bytes of a request. -/
def BackA (s : ByteArray) (op id : Int) (c : ByteArray) (k rr : Int) (more : ByteArray) : Prop :=
  1 ≤ s.size ∧ s.size ≤ c.size + 64 ∧ askedR s = (rqC op id c k rr, 0) ∧ askedR (s ++ ⟨#[120]⟩ ++ more) = (rqC 0 0 ⟨#[]⟩ 0 0, 37) ∧ askedR (s.extract 0 (s.size - 1)) = (rqC 0 0 ⟨#[]⟩ 0 0, 31)
theorem cut_last (s : ByteArray) (h : 1 ≤ s.size) : ∃ y, s.data.toList = (s.extract 0 (s.size - 1)).data.toList ++ [y] := by
  have h1 : s.data.toList.length = s.size := rfl
  have h2 : s.data.toList ≠ [] := fun e => by rw [e] at h1; simp at h1; omega
  refine ⟨s.data.toList.getLast h2, ?_⟩
  have h3 : (s.extract 0 (s.size - 1)).data.toList = s.data.toList.dropLast := by
    rw [ByteArray.data_extract, Array.toList_extract, List.dropLast_eq_take, h1]
    simp
  rw [h3, List.dropLast_concat_getLast]
theorem more_bytes (s more : ByteArray) : (s ++ ⟨#[120]⟩ ++ more).data.toList = s.data.toList ++ (120 :: more.data.toList) := by
  rw [ByteArray.data_append, ByteArray.data_append, Array.toList_append, Array.toList_append, List.append_assoc]
  rfl
theorem askB_len (b1 b2 b3 b4 : Bool) (op id : Int) (c : ByteArray) (k rr : Int) : 1 ≤ (askB b1 b2 b3 b4 op id c k rr).length ∧ (askB b1 b2 b3 b4 op id c k rr).length ≤ c.size + 64 := by
  have h1 := vNum_len id
  have h2 := vNum_len c.size
  have h3 := vNum_len k
  have h4 := vNum_len rr
  have h5 : c.data.toList.length = c.size := rfl
  unfold askB numIf textIf
  cases b1 <;> cases b2 <;> cases b3 <;> cases b4 <;> simp only [List.length_append, List.length_cons, List.length_nil, if_true, if_false, Bool.false_eq_true, h5] <;> omega
theorem back_ask {op id : Int} {c : ByteArray} {k rr : Int} (more : ByteArray) (h0 : id ≤ 9223372036854775807) (h1 : k ≤ 9223372036854775807) (h2 : rr ≤ 9223372036854775807) (h : (askOut op id c k rr).2 = 0) :
    BackA ⟨(askOut op id c k rr).1.toArray⟩ op id c k rr more := by
  have key : FitsQ op id c k rr ∧ (askOut op id c k rr).1 = askB (nm' op).1 (nm' op).2.1 (nm' op).2.2.1 (nm' op).2.2.2 op id c k rr := by
    unfold askOut at h ⊢
    by_cases hop : 1 ≤ op ∧ op ≤ 9
    · rw [if_neg (fun h => h hop)] at h ⊢
      cases hF : askF (nm' op).1 (nm' op).2.1 (nm' op).2.2.1 (nm' op).2.2.2 id c k rr with
      | true => rw [hF] at h; cases h
      | false =>
        rw [hF, if_neg (fun h => Bool.false_ne_true h)] at h
        rw [if_neg (fun h => Bool.false_ne_true h)]
        by_cases hl : lowE id c k rr = 0
        · rw [if_neg (fun h => h hl)]
          obtain ⟨a, b, d, e⟩ := lowE_zero hl
          exact ⟨⟨hop, hF, ⟨a, h0⟩, ⟨b, h1⟩, ⟨d, h2⟩, e⟩, rfl⟩
        · rw [if_pos hl] at h
          exact absurd h hl
    · rw [if_pos hop] at h; cases h
  obtain ⟨hq, he⟩ := key
  rw [he]
  obtain ⟨l1, l2⟩ := askB_len (nm' op).1 (nm' op).2.1 (nm' op).2.2.1 (nm' op).2.2.2 op id c k rr
  generalize hS : askB (nm' op).1 (nm' op).2.1 (nm' op).2.2.1 (nm' op).2.2.2 op id c k rr = S at l1 l2
  have hs : (⟨S.toArray⟩ : ByteArray).size = S.length := by show S.toArray.size = _; simp
  have hd : (⟨S.toArray⟩ : ByteArray).data.toList = S := by simp
  refine ⟨by rw [hs]; exact l1, by rw [hs]; exact l2, ?_, ?_, ?_⟩
  · exact (asked_full (more := []) hq (by rw [hd, hS, List.append_nil])).1 rfl
  · exact (asked_full (more := 120 :: more.data.toList) hq (by rw [more_bytes, hd, hS])).2 (by simp)
  · obtain ⟨y, hy⟩ := cut_last ⟨S.toArray⟩ (by rw [hs]; exact l1)
    exact asked_cut hq (y := [y]) (by simp) (by rw [hS, ← hy, hd])
/-- What is told of the bytes of a reply. -/
def BackT (s : ByteArray) (op code n : Int) (t : ByteArray) (z : List Hv) (more : ByteArray) : Prop :=
  1 ≤ s.size ∧ s.size ≤ t.size + (hitsB z).length + 64 ∧ (hdv s 82 = op ∧ (toldS s).2 = (code, n, t, z) ∧ pEnd s (toldS s).1 = 0) ∧ pEnd (s ++ ⟨#[120]⟩ ++ more) (toldS (s ++ ⟨#[120]⟩ ++ more)).1 = 37 ∧ pEnd (s.extract 0 (s.size - 1)) (toldS (s.extract 0 (s.size - 1))).1 = 31
theorem bodyB_len (kd : Nat) (n : Int) (t : ByteArray) (z : List Hv) : (bodyB kd n t z).length ≤ t.size + (hitsB z).length + 20 := by
  have h1 := vNum_len t.size
  have h2 := vNum_len z.length
  have h3 := vNum_len n
  have h5 : t.data.toList.length = t.size := rfl
  unfold bodyB
  split
  · rw [List.length_append, h5]; omega
  · split
    · split
      · simp
      · rw [List.length_append]; omega
    · split
      · omega
      · simp
theorem back_tell {op code n : Int} {t : ByteArray} {z : List Hv} (more : ByteArray) (hn : n ≤ 9223372036854775807) (hz : ∀ x ∈ z, x.d ≤ 9223372036854775807 ∧ x.i ≤ 9223372036854775807) (h : (tellOut op code n t z).2 = 0) :
    BackT ⟨(tellOut op code n t z).1.toArray⟩ op code n t z more := by
  obtain ⟨hq, he⟩ := tell_inv h hn hz
  rw [he]
  have l0 := vNum_len code
  have l9 := bodyB_len (kdOf op) n t z
  have l1 : 1 ≤ (UInt8.ofNat (82 : Int).toNat :: UInt8.ofNat op.toNat :: (vNum code ++ (if code = 0 then bodyB (kdOf op) n t z else []))).length := by simp
  have l2 : (UInt8.ofNat (82 : Int).toNat :: UInt8.ofNat op.toNat :: (vNum code ++ (if code = 0 then bodyB (kdOf op) n t z else []))).length ≤ t.size + (hitsB z).length + 64 := by
    simp only [List.length_cons, List.length_append]
    split
    · omega
    · simp only [List.length_nil]; omega
  generalize hS : UInt8.ofNat (82 : Int).toNat :: UInt8.ofNat op.toNat :: (vNum code ++ (if code = 0 then bodyB (kdOf op) n t z else [])) = S at l1 l2
  have hs : (⟨S.toArray⟩ : ByteArray).size = S.length := by show S.toArray.size = _; simp
  have hd : (⟨S.toArray⟩ : ByteArray).data.toList = S := by simp
  obtain ⟨a1, a2, a3, _⟩ := told_full (b := ⟨S.toArray⟩) (more := []) hq (by rw [hd, List.append_nil]; exact hS.symm)
  refine ⟨by rw [hs]; exact l1, by rw [hs]; exact l2, ⟨a1, a2, a3 rfl⟩, ?_, ?_⟩
  · exact (told_full (more := 120 :: more.data.toList) hq (by rw [more_bytes, hd, ← hS])).2.2.2 (by simp)
  · obtain ⟨y, hy⟩ := cut_last ⟨S.toArray⟩ (by rw [hs]; exact l1)
    exact told_cut hq (y := [y]) (by simp) (by rw [hS, ← hy, hd])
end Go.Proofs.Ytabhjkaheghbhaa

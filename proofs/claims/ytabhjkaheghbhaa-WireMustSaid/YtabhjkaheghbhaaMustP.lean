/-
  PLAIN PARTS of the law WireMust. (Printed by mustgen.py.)
-/
import Derived.Test.YtabhjkaheghbhaaInv2
import Derived.Test.YtabhjkaheghbhaaBegun
import Derived.Test.YtabhjkaheghbhaaArgHit
namespace Go.Proofs.Ytabhjkaheghbhaa
open Go.RowKit ArgK
set_option linter.unusedVariables false

theorem HL.nil (w : World) (p : Option Addr) : HL w p [] := fun i x h => by simp at h
/-- A number that is not below 0. -/
def up (a : Int) : Int := if a < 0 then 0 else a
theorem up_le (a : Int) : 0 ≤ up a := by unfold up; split <;> omega
/-- A text's first bytes. -/
def cutS (b : ByteArray) (m : Int) : ByteArray := b.extract 0 (if m < b.size then m else b.size).toNat
theorem cutS_le (b : ByteArray) (m : Nat) : (cutS b m).size ≤ m := by
  unfold cutS
  rw [ByteArray.size_extract]
  split <;> omega
theorem must_ask {op id : Int} {c : ByteArray} {k rr : Int} {b1 b2 b3 b4 : Bool} (hr : 1 ≤ op ∧ op ≤ 9) (hn : nm' op = (b1, b2, b3, b4)) (hF : askF b1 b2 b3 b4 id c k rr = false) (h0 : 0 ≤ id) (h1 : 0 ≤ k) (h2 : 0 ≤ rr) (h3 : c.size ≤ 65536) :
    ∃ S : List UInt8, askOut op id c k rr = (S, 0) ∧ 2 ≤ S.length := by
  refine ⟨askB b1 b2 b3 b4 op id c k rr, ?_, ?_⟩
  · rw [askOut_in _ _ _ _ _ hr, hn]
    simp only
    rw [askO_ok hF h0 h1 h2 h3]
  · unfold askB
    simp only [List.length_append, List.length_cons, List.length_nil]
    omega
theorem vNum_pos (n : Int) : 1 ≤ (vNum n).length := by
  unfold vNum varB
  by_cases h : (IntKind.u64.wrap n).toNat < 128
  · rw [varF_low _ _ h]; simp
  · rw [varF_high _ _ h]; simp
theorem must_tell {op code n : Int} {t : ByteArray} {z : List Hv} (hr : 1 ≤ op ∧ op ≤ 9) (hc : 0 ≤ code ∧ code ≤ 999) (hb : tellBad (kdOf op) code n t z.length = false) (he : code ≠ 0 ∨ bodyE (kdOf op) n t z = 0) :
    ∃ S : List UInt8, tellOut op code n t z = (S, 0) ∧ 3 ≤ S.length := by
  refine ⟨[82, UInt8.ofNat op.toNat] ++ vNum code ++ (if code = 0 then bodyB (kdOf op) n t z else []), ?_, ?_⟩
  · unfold tellOut
    rw [if_neg (fun h => h hr), if_neg (by omega), tellO_ok hb he]
  · have := vNum_pos code
    simp only [List.length_append, List.length_cons, List.length_nil]
    omega
theorem must_code {op code : Int} (hr : 1 ≤ op ∧ op ≤ 9) (h7 : 0 < code) (h7' : code < 1000) : ∃ S : List UInt8, tellOut op code 0 ⟨#[]⟩ [] = (S, 0) ∧ 3 ≤ S.length := by
  have hbad : tellBad (kdOf op) code 0 ⟨#[]⟩ ([] : List Hv).length = false := by
    have hz : zeroB 0 ⟨#[]⟩ 0 = true := by simp [zeroB]
    unfold tellBad
    simp only [List.length_nil, hz]
    simp
  exact must_tell hr (by omega) hbad (.inl (by omega))
/-- The hits that are asked for. -/
def mustL (z : List Hv) (k : Nat) : List Hv := (List.range k).map fun i => ⟨(i / 3 : Nat), i, cutS ((z[i]?.map (·.c)).getD ⟨#[]⟩) 200⟩
theorem mustL_length (z : List Hv) (k : Nat) : (mustL z k).length = k := by simp [mustL]
theorem mustL_succ (z : List Hv) (k : Nat) (x : Hv) (h : z[k]? = some x) : mustL z (k + 1) = mustL z k ++ [⟨(k / 3 : Nat), k, cutS x.c 200⟩] := by
  unfold mustL
  rw [List.range_succ, List.map_append]
  simp [h]
theorem mustL_good (z : List Hv) (k : Nat) : GoodH (mustL z k) := by
  refine ⟨fun x hx => ?_, fun j y x hy hx => ?_⟩
  · unfold mustL at hx
    rw [List.mem_map] at hx
    obtain ⟨i, _, rfl⟩ := hx
    exact ⟨by simp; omega, by simp, Nat.le_trans (cutS_le _ 200) (by decide)⟩
  · unfold mustL at hy hx
    rw [List.getElem?_map] at hy hx
    have h1 := (List.getElem?_eq_some_iff.1 (Option.map_eq_some_iff.1 hy).choose_spec.1).1
    have h2 := (List.getElem?_eq_some_iff.1 (Option.map_eq_some_iff.1 hx).choose_spec.1).1
    rw [List.length_range] at h1 h2
    rw [List.getElem?_range h1] at hy
    rw [List.getElem?_range h2] at hx
    simp only [Option.map_some, Option.some.injEq] at hy hx
    subst hy hx
    unfold behB
    simp only
    by_cases h : j / 3 = (j + 1) / 3
    · have e1 : (((j / 3 : Nat) : Int) == (((j + 1) / 3 : Nat) : Int)) = true := by rw [beq_iff_eq, h]
      have e2 : decide (((j : Nat) : Int) < ((j + 1 : Nat) : Int)) = true := by simp; omega
      rw [e1, e2]
      simp
    · have e1 : decide (((j / 3 : Nat) : Int) < (((j + 1) / 3 : Nat) : Int)) = true := by simp; omega
      rw [e1]
      simp
theorem mustL_bytes (z : List Hv) : ∀ k, (hitsB (mustL z k)).length ≤ k * 230
  | 0 => by simp [mustL, hitsB]
  | k + 1 => by
    have ih := mustL_bytes z k
    have e : mustL z (k + 1) = mustL z k ++ [⟨(k / 3 : Nat), k, cutS ((z[k]?.map (·.c)).getD ⟨#[]⟩) 200⟩] := by
      unfold mustL
      rw [List.range_succ, List.map_append]
      simp
    rw [e]
    have h200 := cutS_le ((z[k]?.map (·.c)).getD ⟨#[]⟩) 200
    generalize cutS ((z[k]?.map (·.c)).getD ⟨#[]⟩) 200 = s at h200
    have hx : (hitB ⟨((k / 3 : Nat) : Int), (k : Int), s⟩).length ≤ 230 := by
      unfold hitB
      have a1 := vNum_len ((k / 3 : Nat) : Int)
      have a2 := vNum_len (k : Int)
      have a3 := vNum_len s.size
      have a4 : s.data.toList.length = s.size := rfl
      simp only [List.length_append]
      omega
    have hf : hitsB (mustL z k ++ [⟨((k / 3 : Nat) : Int), (k : Int), s⟩]) = hitsB (mustL z k) ++ hitB ⟨((k / 3 : Nat) : Int), (k : Int), s⟩ := by
      unfold hitsB
      rw [List.flatMap_append]
      simp
    rw [hf, List.length_append]
    omega
theorem must_hits {op : Int} (hr : op = 4 ∨ op = 5) (z : List Hv) (k : Nat) (hk : k ≤ 1000) : ∃ S : List UInt8, tellOut op 0 0 ⟨#[]⟩ (mustL z k) = (S, 0) ∧ 3 ≤ S.length := by
  have hkd : kdOf op = 4 := by rcases hr with rfl | rfl <;> rfl
  have hl := mustL_length z k
  refine must_tell (by omega) (by decide) ?_ (.inr ?_)
  · rw [hkd]; simp [tellBad, zeroB]
  · rw [hkd]
    have hnl : ¬ 65536 < (mustL z k).length := by omega
    simp [bodyE, hnl, (mustL_good z k).zero]
end Go.Proofs.Ytabhjkaheghbhaa

/-
  PLAIN LAWS: requests and replies, there and back.
-/
import Derived.Test.YtabhjkaheghbhaaCut
import Derived.Test.YtabhjkaheghbhaaTold
import Derived.Test.YtabhjkaheghbhaaTell
import Derived.Test.YtabhjkaheghbhaaAskX
namespace Go.Proofs.Ytabhjkaheghbhaa
open Go.RowKit
set_option linter.unusedVariables false

theorem pNum_full {b : ByteArray} {most : Nat} {E : Int} {a : Nat} {n : Int} {rest : List UInt8} (hm : most ≤ 9223372036854775807) (h0 : 0 ≤ n) (h1 : n ≤ most) (ha : a ≤ b.size) (h : tl b a = vNum n ++ rest) :
    ∃ a', pNum b most E (.ok a) = (.ok a', n) ∧ a' ≤ b.size ∧ tl b a' = rest := by
  obtain ⟨e, t⟩ := pNum_fwd (E := E) hm h0 h1 ha h
  exact ⟨_, e, pNum_ok e, t⟩
theorem pText_full {b : ByteArray} {a : Nat} {c : ByteArray} {rest : List UInt8} (hc : c.size ≤ 65536) (ha : a ≤ b.size) (h : tl b a = vNum c.size ++ c.data.toList ++ rest) :
    ∃ a', pText b (.ok a) = (.ok a', c) ∧ a' ≤ b.size ∧ tl b a' = rest := by
  obtain ⟨e, t⟩ := pText_fwd hc ha h
  refine ⟨_, e, ?_, t⟩
  have hl := congrArg List.length h
  have htl : (tl b a).length = b.size - a := by unfold tl; rw [List.length_drop, size_len]
  have hcl : c.data.toList.length = c.size := rfl
  rw [htl, List.length_append, List.length_append, hcl] at hl
  have hp : 1 ≤ (vNum c.size).length := by
    unfold vNum varB
    by_cases h : (IntKind.u64.wrap (c.size : Int)).toNat < 128
    · rw [varF_low _ _ h]; simp
    · rw [varF_high _ _ h]; simp
  omega
/-- What stands behind a request's two first bytes. -/
def bodyQ (op id : Int) (c : ByteArray) (k rr : Int) : List UInt8 := numIf (nm' op).1 id ++ textIf (nm' op).2.1 c ++ numIf (nm' op).2.2.1 k ++ numIf (nm' op).2.2.2 rr
def FitsQ (op id : Int) (c : ByteArray) (k rr : Int) : Prop := (1 ≤ op ∧ op ≤ 9) ∧ askF (nm' op).1 (nm' op).2.1 (nm' op).2.2.1 (nm' op).2.2.2 id c k rr = false ∧ (0 ≤ id ∧ id ≤ 9223372036854775807) ∧ (0 ≤ k ∧ k ≤ 9223372036854775807) ∧ (0 ≤ rr ∧ rr ≤ 9223372036854775807) ∧ c.size ≤ 65536
theorem askA_full {b : ByteArray} {op id : Int} {c : ByteArray} {k rr : Int} {more : List UInt8} {a0 : Nat} (hq : FitsQ op id c k rr) (ha : a0 ≤ b.size) (h : tl b a0 = bodyQ op id c k rr ++ more) :
    ∃ a, askA b op (.ok a0) = (.ok a, id, c, k, rr) ∧ tl b a = more := by
  obtain ⟨hop, hF, h0, h1, h2, h3⟩ := hq
  have hc9 : op = 1 ∨ op = 2 ∨ op = 3 ∨ op = 4 ∨ op = 5 ∨ op = 6 ∨ op = 7 ∨ op = 8 ∨ op = 9 := by omega
  have six : bodyQ op id c k rr = [] → (id = 0 ∧ c = ⟨#[]⟩ ∧ k = 0 ∧ rr = 0) → (∀ s, askA b op s = ask6 b s) → ∃ a, askA b op (.ok a0) = (.ok a, id, c, k, rr) ∧ tl b a = more := by
    intro hb ⟨e1, e2, e3, e4⟩ hA
    rw [hb] at h
    refine ⟨a0, ?_, h⟩
    rw [hA, e1, e2, e3, e4]
    rfl
  rcases hc9 with rfl | rfl | rfl | rfl | rfl | rfl | rfl | rfl | rfl
  · obtain ⟨rfl, rfl⟩ : k = 0 ∧ rr = 0 := by simpa [askF, nm'] using hF
    have h' : tl b a0 = vNum id ++ (vNum c.size ++ c.data.toList ++ more) := by rw [h]; simp [bodyQ, nm', numIf, textIf]
    obtain ⟨a1, e1, l1, t1⟩ := pNum_full (E := 13) (most := 9223372036854775807) (by decide) h0.1 h0.2 ha h'
    obtain ⟨a2, e2, l2, t2⟩ := pText_full h3 l1 t1
    refine ⟨a2, ?_, t2⟩
    show ask1 b (.ok a0) = _
    unfold ask1 aNum
    rw [e1]
    simp only [e2]
  · obtain ⟨rfl, rfl, rfl⟩ : c = ⟨#[]⟩ ∧ k = 0 ∧ rr = 0 := by simpa [askF, nm', and_assoc] using hF
    have h' : tl b a0 = vNum id ++ more := by rw [h]; simp [bodyQ, nm', numIf, textIf]
    obtain ⟨a1, e1, l1, t1⟩ := pNum_full (E := 13) (most := 9223372036854775807) (by decide) h0.1 h0.2 ha h'
    refine ⟨a1, ?_, t1⟩
    show ask2 b (.ok a0) = _
    unfold ask2 aNum
    rw [e1]
  · obtain ⟨rfl, rfl, rfl⟩ : c = ⟨#[]⟩ ∧ k = 0 ∧ rr = 0 := by simpa [askF, nm', and_assoc] using hF
    have h' : tl b a0 = vNum id ++ more := by rw [h]; simp [bodyQ, nm', numIf, textIf]
    obtain ⟨a1, e1, l1, t1⟩ := pNum_full (E := 13) (most := 9223372036854775807) (by decide) h0.1 h0.2 ha h'
    refine ⟨a1, ?_, t1⟩
    show ask2 b (.ok a0) = _
    unfold ask2 aNum
    rw [e1]
  · obtain ⟨rfl, rfl⟩ : id = 0 ∧ rr = 0 := by simpa [askF, nm'] using hF
    have h' : tl b a0 = vNum c.size ++ c.data.toList ++ (vNum k ++ more) := by rw [h]; simp [bodyQ, nm', numIf, textIf]
    obtain ⟨a1, e1, l1, t1⟩ := pText_full h3 ha h'
    obtain ⟨a2, e2, l2, t2⟩ := pNum_full (E := 13) (most := 9223372036854775807) (by decide) h1.1 h1.2 l1 t1
    refine ⟨a2, ?_, t2⟩
    show ask4 b (.ok a0) = _
    unfold ask4 aNum
    rw [e1]
    simp only [e2]
  · obtain ⟨rfl, rfl⟩ : id = 0 ∧ k = 0 := by simpa [askF, nm'] using hF
    have h' : tl b a0 = vNum c.size ++ c.data.toList ++ (vNum rr ++ more) := by rw [h]; simp [bodyQ, nm', numIf, textIf]
    obtain ⟨a1, e1, l1, t1⟩ := pText_full h3 ha h'
    obtain ⟨a2, e2, l2, t2⟩ := pNum_full (E := 13) (most := 9223372036854775807) (by decide) h2.1 h2.2 l1 t1
    refine ⟨a2, ?_, t2⟩
    show ask5 b (.ok a0) = _
    unfold ask5 aNum
    rw [e1]
    simp only [e2]
  · exact six rfl (by simpa [askF, nm', and_assoc] using hF) (fun s => rfl)
  · exact six rfl (by simpa [askF, nm', and_assoc] using hF) (fun s => rfl)
  · exact six rfl (by simpa [askF, nm', and_assoc] using hF) (fun s => rfl)
  · exact six rfl (by simpa [askF, nm', and_assoc] using hF) (fun s => rfl)
theorem askA_cut {b : ByteArray} {op id : Int} {c : ByteArray} {k rr : Int} {y : List UInt8} {s : St} (hq : FitsQ op id c k rr) (hy : y ≠ []) (h : CutS b s (bodyQ op id c k rr) y) : CutS b (askA b op s).1 [] y := by
  obtain ⟨hop, hF, h0, h1, h2, h3⟩ := hq
  have hc9 : op = 1 ∨ op = 2 ∨ op = 3 ∨ op = 4 ∨ op = 5 ∨ op = 6 ∨ op = 7 ∨ op = 8 ∨ op = 9 := by omega
  rcases hc9 with rfl | rfl | rfl | rfl | rfl | rfl | rfl | rfl | rfl
  · have h' : CutS b s (vNum id ++ (vNum c.size ++ c.data.toList ++ [])) y := by rw [show vNum id ++ (vNum c.size ++ c.data.toList ++ []) = bodyQ 1 id c k rr by simp [bodyQ, nm', numIf, textIf]]; exact h
    exact (CutS.text (CutS.num (E := 13) (most := 9223372036854775807) h' hy (by decide) h0.1 h0.2).s hy h3).s
  · have h' : CutS b s (vNum id ++ []) y := by rw [show vNum id ++ [] = bodyQ 2 id c k rr by simp [bodyQ, nm', numIf, textIf]]; exact h
    exact (CutS.num (E := 13) (most := 9223372036854775807) h' hy (by decide) h0.1 h0.2).s
  · have h' : CutS b s (vNum id ++ []) y := by rw [show vNum id ++ [] = bodyQ 3 id c k rr by simp [bodyQ, nm', numIf, textIf]]; exact h
    exact (CutS.num (E := 13) (most := 9223372036854775807) h' hy (by decide) h0.1 h0.2).s
  · have h' : CutS b s (vNum c.size ++ c.data.toList ++ (vNum k ++ [])) y := by rw [show vNum c.size ++ c.data.toList ++ (vNum k ++ []) = bodyQ 4 id c k rr by simp [bodyQ, nm', numIf, textIf]]; exact h
    exact (CutS.num (E := 13) (most := 9223372036854775807) (CutS.text h' hy h3).s hy (by decide) h1.1 h1.2).s
  · have h' : CutS b s (vNum c.size ++ c.data.toList ++ (vNum rr ++ [])) y := by rw [show vNum c.size ++ c.data.toList ++ (vNum rr ++ []) = bodyQ 5 id c k rr by simp [bodyQ, nm', numIf, textIf]]; exact h
    exact (CutS.num (E := 13) (most := 9223372036854775807) (CutS.text h' hy h3).s hy (by decide) h2.1 h2.2).s
  · exact h
  · exact h
  · exact h
  · exact h
theorem hd2_nil {b : ByteArray} {l : Int} (h : b.data.toList = []) : hd2 b l = .error 31 := by
  have hs : b.size = 0 := by rw [← size_len, h]; rfl
  have hp : pHead b l = (.error 31, 0) := by unfold pHead; rw [if_pos hs]
  rw [pHead_eq] at hp
  exact (Prod.mk.inj hp).1
theorem size_two {b : ByteArray} {x y : UInt8} {r : List UInt8} (h : b.data.toList = x :: y :: r) : 2 ≤ b.size := by
  rw [← size_len, h]; simp
theorem asked_full {b : ByteArray} {op id : Int} {c : ByteArray} {k rr : Int} {more : List UInt8} (hq : FitsQ op id c k rr) (h : b.data.toList = askB (nm' op).1 (nm' op).2.1 (nm' op).2.2.1 (nm' op).2.2.2 op id c k rr ++ more) :
    (more = [] → askedR b = (rqC op id c k rr, 0)) ∧ (more ≠ [] → askedR b = (rqC 0 0 ⟨#[]⟩ 0 0, 37)) := by
  have hb : b.data.toList = UInt8.ofNat (81 : Int).toNat :: UInt8.ofNat op.toNat :: (bodyQ op id c k rr ++ more) := by rw [h]; simp [askB, bodyQ]
  obtain ⟨e1, e2, t1⟩ := head_fwd (l := 81) (by decide) hq.1 hb
  obtain ⟨a, e3, t2⟩ := askA_full hq (size_two hb) t1
  unfold askedR
  rw [e1, e2]
  simp only [e3]
  refine ⟨fun hm => ?_, fun hm => ?_⟩
  · subst hm
    rw [pEnd_done t2]
    rfl
  · obtain ⟨x, r, rfl⟩ := List.exists_cons_of_ne_nil hm
    rw [pEnd_more t2]
    rfl
theorem asked_cut {b : ByteArray} {op id : Int} {c : ByteArray} {k rr : Int} {y : List UInt8} (hq : FitsQ op id c k rr) (hy : y ≠ []) (h : askB (nm' op).1 (nm' op).2.1 (nm' op).2.2.1 (nm' op).2.2.2 op id c k rr = b.data.toList ++ y) : askedR b = (rqC 0 0 ⟨#[]⟩ 0 0, 31) := by
  have hA : askB (nm' op).1 (nm' op).2.1 (nm' op).2.2.1 (nm' op).2.2.2 op id c k rr = UInt8.ofNat (81 : Int).toNat :: UInt8.ofNat op.toNat :: bodyQ op id c k rr := by simp [askB, bodyQ]
  rw [hA] at h
  match hb : b.data.toList with
  | [] =>
    unfold askedR
    rw [hd2_nil hb]
  | [x] =>
    rw [hb] at h
    obtain ⟨rfl, _⟩ := List.cons.inj h
    unfold askedR
    rw [head_short (l := 81) (by decide) hb]
  | x :: x' :: r =>
    rw [hb] at h
    obtain ⟨rfl, h2⟩ := List.cons.inj h
    obtain ⟨rfl, h3⟩ := List.cons.inj h2
    obtain ⟨e1, e2, t1⟩ := head_fwd (l := 81) (by decide) hq.1 hb
    have hc := (askA_cut hq hy (.inr ⟨2, rfl, size_two hb, by rw [t1]; exact h3⟩) : CutS b (askA b op (.ok 2)).1 [] y).fin hy
    unfold askedR
    rw [e1, e2]
    simp only [hc]
    rfl

/-- What stands behind a reply's two first bytes. -/
def FitsR (op code n : Int) (t : ByteArray) (z : List Hv) : Prop := (1 ≤ op ∧ op ≤ 9) ∧ (0 ≤ code ∧ code ≤ 999) ∧ tellBad (kdOf op) code n t z.length = false ∧ (code = 0 → bodyE (kdOf op) n t z = 0) ∧ n ≤ 9223372036854775807 ∧ ∀ x ∈ z, x.d ≤ 9223372036854775807 ∧ x.i ≤ 9223372036854775807
theorem tell_inv {op code n : Int} {t : ByteArray} {z : List Hv} (h : (tellOut op code n t z).2 = 0) (hn : n ≤ 9223372036854775807) (hz : ∀ x ∈ z, x.d ≤ 9223372036854775807 ∧ x.i ≤ 9223372036854775807) :
    FitsR op code n t z ∧ (tellOut op code n t z).1 = UInt8.ofNat (82 : Int).toNat :: UInt8.ofNat op.toNat :: (vNum code ++ (if code = 0 then bodyB (kdOf op) n t z else [])) := by
  unfold tellOut at h ⊢
  by_cases hop : 1 ≤ op ∧ op ≤ 9
  · rw [if_neg (fun h => h hop)] at h ⊢
    by_cases hco : code < 0 ∨ 999 < code
    · rw [if_pos hco] at h; cases h
    · rw [if_neg hco] at h ⊢
      cases hb : tellBad (kdOf op) code n t z.length with
      | true => unfold tellO at h; rw [hb] at h; cases h
      | false =>
        by_cases hc : code = 0
        · by_cases he : bodyE (kdOf op) n t z = 0
          · refine ⟨⟨hop, by omega, hb, fun _ => he, hn, hz⟩, ?_⟩
            rw [tellO_ok hb (.inr he)]
            simp [hc]
          · unfold tellO at h
            rw [hb, if_neg (fun h => Bool.false_ne_true h), if_neg (fun h => h hc), if_pos he] at h
            exact absurd h he
        · refine ⟨⟨hop, by omega, hb, fun h => absurd h hc, hn, hz⟩, ?_⟩
          rw [tellO_ok hb (.inl hc)]
          simp [hc]
  · rw [if_pos hop] at h; cases h
theorem tellBad_code {kd : Nat} {code n : Int} {t : ByteArray} {m : Nat} (h : tellBad kd code n t m = false) (hc : code ≠ 0) : n = 0 ∧ t = ⟨#[]⟩ ∧ m = 0 := by
  unfold tellBad at h
  rw [Bool.or_eq_false_iff] at h
  have h1 := h.1
  rw [show (code != 0) = true by simpa using hc, Bool.true_and] at h1
  exact zeroB_true (by simpa using h1)
theorem tellBad_kd {kd : Nat} {code n : Int} {t : ByteArray} {m : Nat} (h : tellBad kd code n t m = false) : (if kd = 3 then zeroB n ⟨#[]⟩ m else if kd = 4 then zeroB n t 0 else if kd = 6 then zeroB 0 t m else zeroB n t m) = true := by
  unfold tellBad at h
  rw [Bool.or_eq_false_iff] at h
  simpa using h.2
theorem goes_of {z : List Hv} (h : hitsE z z.length 0 = 0) (hz : ∀ x ∈ z, x.d ≤ 9223372036854775807 ∧ x.i ≤ 9223372036854775807) : Goes z := by
  intro j x hx
  obtain ⟨h1, h2, h3, h4⟩ := hitsE_zero (Nat.le_refl _) h j x (List.getElem?_eq_some_iff.1 hx).1 hx
  obtain ⟨h5, h6⟩ := hz x (List.mem_of_getElem? hx)
  exact ⟨h1, ⟨h2, h5⟩, ⟨h3, h6⟩, h4⟩
theorem kd_cases (op : Int) (h : 1 ≤ op ∧ op ≤ 9) : kdOf op = 3 ∨ kdOf op = 4 ∨ kdOf op = 6 ∨ kdOf op = 1 := by
  unfold kdOf
  split
  · exact .inl rfl
  · split
    · exact .inr (.inl rfl)
    · split
      · exact .inr (.inr (.inl rfl))
      · exact .inr (.inr (.inr rfl))
theorem list_nil {z : List Hv} (h : z.length = 0) : z = [] := List.eq_nil_of_length_eq_zero h
theorem toldR_full {b : ByteArray} {op n : Int} {t : ByteArray} {z : List Hv} {more : List UInt8} {a0 : Nat} (hq : FitsR op 0 n t z) (ha : a0 ≤ b.size) (h : tl b a0 = bodyB (kdOf op) n t z ++ more) :
    ∃ a, toldR (kdOf op) b (.ok a0) = (.ok a, n, t, z) ∧ tl b a = more := by
  obtain ⟨hop, _, hb, he, hn, hz⟩ := hq
  have he := he rfl
  have hk := tellBad_kd hb
  rcases kd_cases op hop with e | e | e | e <;> rw [e] at h he hk ⊢
  · obtain ⟨rfl, _, h0⟩ := zeroB_true (show zeroB n ⟨#[]⟩ z.length = true from hk)
    obtain rfl := list_nil h0
    have hs : t.size ≤ 65536 := by
      have h1 : rf (decide (65536 < (t.size : Int))) 36 0 = 0 := he
      have := of_decide_eq_false (rf_zero (by decide) h1).2
      omega
    have h' : tl b a0 = vNum t.size ++ t.data.toList ++ more := h
    obtain ⟨a1, e1, l1, t1⟩ := pText_full hs ha h'
    exact ⟨a1, by rw [toldR3, e1], t1⟩
  · obtain ⟨rfl, rfl, _⟩ := zeroB_true (show zeroB n t 0 = true from hk)
    have he1 : (if 65536 < z.length then (43 : Int) else hitsE z z.length 0) = 0 := he
    have h1 : tl b a0 = (if 65536 < z.length then [] else vNum z.length ++ hitsB z) ++ more := h
    by_cases hl : 65536 < z.length
    · rw [if_pos hl] at he1; cases he1
    · rw [if_neg hl] at he1 h1
      obtain ⟨a1, e1, t1⟩ := pHits_fwd (goes_of he1 hz) (by omega) ha h1
      exact ⟨a1, by rw [toldR4, e1], t1⟩
  · obtain ⟨_, rfl, h0⟩ := zeroB_true (show zeroB 0 t z.length = true from hk)
    obtain rfl := list_nil h0
    have hs : 0 ≤ n := by
      have h1 : rf (decide (n < 0)) 13 0 = 0 := he
      have := of_decide_eq_false (rf_zero (by decide) h1).2
      omega
    have h' : tl b a0 = vNum n ++ more := h
    obtain ⟨a1, e1, l1, t1⟩ := pNum_full (E := 13) (most := 9223372036854775807) (by decide) hs hn ha h'
    exact ⟨a1, by rw [toldR6]; unfold aNum; rw [e1], t1⟩
  · obtain ⟨rfl, rfl, h0⟩ := zeroB_true (show zeroB n t z.length = true from hk)
    obtain rfl := list_nil h0
    exact ⟨a0, rfl, h⟩
theorem toldR_cut {b : ByteArray} {op n : Int} {t : ByteArray} {z : List Hv} {y : List UInt8} {s : St} (hq : FitsR op 0 n t z) (hy : y ≠ []) (h : CutS b s (bodyB (kdOf op) n t z) y) : CutS b (toldR (kdOf op) b s).1 [] y := by
  obtain ⟨hop, _, hb, he, hn, hz⟩ := hq
  have he := he rfl
  rcases kd_cases op hop with e | e | e | e <;> rw [e] at h he ⊢
  · have hs : t.size ≤ 65536 := by
      have h1 : rf (decide (65536 < (t.size : Int))) 36 0 = 0 := he
      have := of_decide_eq_false (rf_zero (by decide) h1).2
      omega
    have h' : CutS b s (vNum t.size ++ t.data.toList ++ []) y := by rw [List.append_nil]; exact h
    exact (CutS.text h' hy hs).s
  · have he1 : (if 65536 < z.length then (43 : Int) else hitsE z z.length 0) = 0 := he
    have h1 : CutS b s (if 65536 < z.length then [] else vNum z.length ++ hitsB z) y := h
    by_cases hl : 65536 < z.length
    · rw [if_pos hl] at he1; cases he1
    · rw [if_neg hl] at he1 h1
      exact pHits_cut (goes_of he1 hz) (by omega) hy (by rw [List.append_nil]; exact h1)
  · have hs : 0 ≤ n := by
      have h1 : rf (decide (n < 0)) 13 0 = 0 := he
      have := of_decide_eq_false (rf_zero (by decide) h1).2
      omega
    have h' : CutS b s (vNum n ++ []) y := by rw [List.append_nil]; exact h
    exact (CutS.num (E := 13) (most := 9223372036854775807) h' hy (by decide) hs hn).s
  · exact h
theorem told_full {b : ByteArray} {op code n : Int} {t : ByteArray} {z : List Hv} {more : List UInt8} (hq : FitsR op code n t z) (h : b.data.toList = UInt8.ofNat (82 : Int).toNat :: UInt8.ofNat op.toNat :: (vNum code ++ (if code = 0 then bodyB (kdOf op) n t z else [])) ++ more) :
    hdv b 82 = op ∧ (toldS b).2 = (code, n, t, z) ∧ (more = [] → pEnd b (toldS b).1 = 0) ∧ (more ≠ [] → pEnd b (toldS b).1 = 37) := by
  have hb : b.data.toList = UInt8.ofNat (82 : Int).toNat :: UInt8.ofNat op.toNat :: (vNum code ++ ((if code = 0 then bodyB (kdOf op) n t z else []) ++ more)) := by rw [h]; simp
  obtain ⟨e1, e2, t1⟩ := head_fwd (l := 82) (by decide) hq.1 hb
  obtain ⟨a1, e3, l1, t2⟩ := pNum_full (E := 13) (most := 999) (by decide) hq.2.1.1 (by have := hq.2.1.2; omega) (size_two hb) t1
  have key : ∃ a, toldS b = (.ok a, code, n, t, z) ∧ tl b a = more := by
    unfold toldS
    rw [e1, e3, e2]
    simp only
    by_cases hc : code = 0
    · subst hc
      rw [if_pos rfl] at t2 ⊢
      obtain ⟨a, e4, t3⟩ := toldR_full hq l1 t2
      exact ⟨a, by rw [e4], t3⟩
    · rw [if_neg hc] at t2 ⊢
      obtain ⟨rfl, rfl, h0⟩ := tellBad_code hq.2.2.1 hc
      obtain rfl := list_nil h0
      exact ⟨a1, rfl, t2⟩
  obtain ⟨a, e4, t3⟩ := key
  rw [e4]
  refine ⟨e2, rfl, fun hm => ?_, fun hm => ?_⟩
  · subst hm
    exact pEnd_done t3
  · obtain ⟨x, r, rfl⟩ := List.exists_cons_of_ne_nil hm
    exact pEnd_more t3
theorem told_cut {b : ByteArray} {op code n : Int} {t : ByteArray} {z : List Hv} {y : List UInt8} (hq : FitsR op code n t z) (hy : y ≠ []) (h : UInt8.ofNat (82 : Int).toNat :: UInt8.ofNat op.toNat :: (vNum code ++ (if code = 0 then bodyB (kdOf op) n t z else [])) = b.data.toList ++ y) : pEnd b (toldS b).1 = 31 := by
  have hE : ∀ e c, pNum b 999 13 (hd2 b 82) = (.error e, c) → (toldS b).1 = .error e := fun e c he => by unfold toldS; rw [he]
  match hb : b.data.toList with
  | [] => rw [hE 31 0 (by rw [hd2_nil hb]; rfl)]; rfl
  | [x] =>
    rw [hb] at h
    obtain ⟨rfl, _⟩ := List.cons.inj h
    rw [hE 31 0 (by rw [head_short (l := 82) (by decide) hb]; rfl)]; rfl
  | x :: x' :: r =>
    rw [hb] at h
    obtain ⟨rfl, h2⟩ := List.cons.inj h
    obtain ⟨rfl, h3⟩ := List.cons.inj h2
    obtain ⟨e1, e2, t1⟩ := head_fwd (l := 82) (by decide) hq.1 hb
    have hc0 : CutS b (hd2 b 82) (vNum code ++ (if code = 0 then bodyB (kdOf op) n t z else [])) y := .inr ⟨2, e1, size_two hb, by rw [t1]; exact h3⟩
    rcases CutS.num (E := 13) (most := 999) hc0 hy (by decide) hq.2.1.1 (by have := hq.2.1.2; omega) with e | ⟨a, e, ha, hr⟩
    · rw [hE 31 0 e]; rfl
    · refine CutS.fin ?_ hy
      unfold toldS
      rw [e, e2]
      simp only
      by_cases hc : code = 0
      · subst hc
        rw [if_pos rfl] at hr ⊢
        exact toldR_cut hq hy (.inr ⟨a, rfl, ha, hr⟩)
      · rw [if_neg hc] at hr ⊢
        exact .inr ⟨a, rfl, ha, hr⟩
end Go.Proofs.Ytabhjkaheghbhaa

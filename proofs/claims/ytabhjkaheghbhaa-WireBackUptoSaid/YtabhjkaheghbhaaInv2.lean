/-
  PLAIN LAWS: what is read, written again, is the same bytes: requests and replies.
-/
import Derived.Test.YtabhjkaheghbhaaInv
namespace Go.Proofs.Ytabhjkaheghbhaa
open Go.RowKit
set_option linter.unusedVariables false

/-- A state's refusal is one. -/
def NE (s : St) : Prop := ∀ e, s = .error e → e ≠ 0
theorem NE.ok (a : Nat) : NE (.ok a) := fun e h => by cases h
theorem NE.num {b : ByteArray} {most : Nat} {E : Int} {s : St} (h : NE s) (hE : E ≠ 0) : NE (pNum b most E s).1 := by
  unfold pNum
  cases s with
  | error e => exact h
  | ok a =>
    simp only
    split
    · next hf => intro e he; cases he; exact hf
    · split
      · intro e he; cases he; decide
      · split
        · intro e he; cases he; exact hE
        · exact NE.ok _
theorem NE.text {b : ByteArray} {s : St} (h : NE s) : NE (pText b s).1 := by
  unfold pText
  have h1 := NE.num (b := b) (most := 65536) (E := 36) h (by decide)
  obtain ⟨s1, n, hn⟩ : ∃ s1 n, pNum b 65536 36 s = (s1, n) := ⟨_, _, rfl⟩
  rw [hn] at h1 ⊢
  cases s1 with
  | error e => exact h1
  | ok a =>
    simp only
    split
    · intro e he; cases he; decide
    · exact NE.ok _
theorem NE.hit {b : ByteArray} {p : Option Hv} {s : St} (h : NE s) : NE (hitR b p s).1 := by
  have h1 : NE (pText b (aNum b (aNum b s).1).1).1 := NE.text (NE.num (NE.num h (by decide)) (by decide))
  unfold hitR
  simp only
  generalize (pText b (aNum b (aNum b s).1).1).1 = s3 at h1
  cases s3 with
  | error e => exact h1
  | ok a =>
    cases p with
    | none => exact NE.ok _
    | some y =>
      simp only
      split
      · exact NE.ok _
      · intro e he; cases he; decide
theorem NE.loop {b : ByteArray} : ∀ (k : Nat) (s : St) (l : List Hv), NE s → NE (pLoop b k s l).1
  | 0, s, l, h => h
  | k + 1, .error e, l, h => h
  | k + 1, .ok a, l, h => NE.loop k _ _ (NE.hit h)
theorem NE.hits {b : ByteArray} {s : St} (h : NE s) : NE (pHits b s).1 := NE.loop _ _ _ (NE.num h (by decide))
theorem NE.head (b : ByteArray) (l : Int) : NE (hd2 b l) := by
  have h : hd2 b l = (pHead b l).1 := by rw [pHead_eq]
  rw [h]
  unfold pHead
  (repeat' split) <;> first | exact NE.ok _ | (intro e he; cases he; decide)

theorem head_inv {b : ByteArray} {l : Int} {a : Nat} (h : hd2 b l = .ok a) : a = 2 ∧ b.data.toList = UInt8.ofNat l.toNat :: UInt8.ofNat (hdv b l).toNat :: tl b 2 ∧ 1 ≤ hdv b l ∧ hdv b l ≤ 9 := by
  have hr := hd_ok h
  have hp := pHead_eq b l
  rw [h] at hp
  unfold pHead at hp
  split at hp
  · cases hp
  · next h0 =>
    split at hp
    · cases hp
    · next h1 =>
      split at hp
      · cases hp
      · next h2 =>
        split at hp
        · cases hp
        · next h4 =>
          simp only [Prod.mk.injEq, Except.ok.injEq] at hp
          obtain ⟨rfl, hv⟩ := hp
          refine ⟨rfl, ?_, hr⟩
          rw [← hv]
          have h1' : bat b 0 = l := Classical.not_not.1 h1
          rw [← h1']
          have hl : 2 ≤ b.data.toList.length := by rw [size_len]; omega
          unfold tl bat
          match hb : b.data.toList, hl with
          | x :: y :: r, _ => simp
def GoodH (L : List Hv) : Prop := (∀ x ∈ L, 0 ≤ x.d ∧ 0 ≤ x.i ∧ x.c.size ≤ 65536) ∧ ∀ j y x, L[j]? = some y → L[j + 1]? = some x → behB y x = true
theorem GoodH.nil : GoodH [] := ⟨fun x h => by simp at h, fun j y x h => by simp at h⟩
theorem GoodH.snoc {l : List Hv} {x : Hv} (h : GoodH l) (h1 : 0 ≤ x.d ∧ 0 ≤ x.i ∧ x.c.size ≤ 65536) (h2 : ∀ y, l.getLast? = some y → behB y x = true) : GoodH (l ++ [x]) := by
  refine ⟨fun z hz => ?_, fun j y z hy hz => ?_⟩
  · rw [List.mem_append] at hz
    rcases hz with hz | hz
    · exact h.1 z hz
    · simp at hz; subst hz; exact h1
  · have hl := (List.getElem?_eq_some_iff.1 hz).1
    rw [List.length_append, List.length_singleton] at hl
    rcases Nat.lt_or_ge (j + 1) l.length with hj | hj
    · rw [List.getElem?_append_left hj] at hz
      rw [List.getElem?_append_left (by omega)] at hy
      exact h.2 j y z hy hz
    · have hj2 : j + 1 = l.length := by omega
      rw [List.getElem?_append_right (by omega), hj2, Nat.sub_self] at hz
      simp at hz
      subst hz
      rw [List.getElem?_append_left (by omega)] at hy
      exact h2 y (by rw [List.getLast?_eq_getElem?, ← hj2]; exact hy)
theorem GoodH.zero {L : List Hv} (h : GoodH L) : ∀ k, hitsE L k 0 = 0
  | 0 => rfl
  | k + 1 => by
    cases hx : L[k]? with
    | none => simp only [hitsE, hx]; exact GoodH.zero h k
    | some x =>
      rw [hitsE_step _ _ _ _ hx, GoodH.zero h k]
      have ho : outO L k = false := by
        cases k with
        | zero => rfl
        | succ k =>
          unfold outO
          simp only [hx]
          cases hy : L[k]? with
          | none => rfl
          | some y => simp only [h.2 k y x hy hx]; rfl
      obtain ⟨h1, h2, h3⟩ := h.1 x (List.mem_of_getElem? hx)
      have d1 : decide (x.d < 0) = false := by simp; omega
      have d2 : decide (x.i < 0) = false := by simp; omega
      have d3 : decide (65536 < (x.c.size : Int)) = false := by simp; omega
      unfold hitE
      rw [ho, d1, d2, d3]
      simp [rf]
theorem hitR_inv {b : ByteArray} {p : Option Hv} {a a' : Nat} {x : Hv} (h : hitR b p (.ok a) = (.ok a', x)) :
    tl b a = hitB x ++ tl b a' ∧ a' ≤ b.size ∧ (0 ≤ x.d ∧ 0 ≤ x.i ∧ x.c.size ≤ 65536) ∧ ∀ y, p = some y → behB y x = true := by
  obtain ⟨s1, d, h1⟩ : ∃ s1 d, aNum b (.ok a) = (s1, d) := ⟨_, _, rfl⟩
  obtain ⟨s2, i, h2⟩ : ∃ s2 i, aNum b s1 = (s2, i) := ⟨_, _, rfl⟩
  obtain ⟨s3, c, h3⟩ : ∃ s3 c, pText b s2 = (s3, c) := ⟨_, _, rfl⟩
  unfold hitR at h
  rw [h1] at h
  simp only [h2, h3, Prod.mk.injEq] at h
  obtain ⟨hs, rfl⟩ := h
  obtain ⟨a3, rfl⟩ : ∃ a3, s3 = .ok a3 := by
    cases s3 with
    | error e => simp at hs
    | ok a3 => exact ⟨a3, rfl⟩
  obtain ⟨a2, rfl⟩ := pText_okS h3
  obtain ⟨a1, rfl⟩ := pNum_okS h2
  obtain ⟨t1, l1, l2, n1, _⟩ := pNum_inv h1 (by decide)
  obtain ⟨t2, l3, l4, n2, _⟩ := pNum_inv h2 (by decide)
  obtain ⟨t3, l5, l6, n3⟩ := pText_inv h3
  have hb : ∀ y, p = some y → behB y ⟨d, i, c⟩ = true ∧ True := by
    intro y hy
    subst hy
    simp only at hs
    split at hs
    · next hq => exact ⟨hq, trivial⟩
    · simp at hs
  have ha : a3 = a' := by
    cases p with
    | none => simpa using hs
    | some y =>
      simp only [(hb y rfl).1, if_true, Except.ok.injEq] at hs
      exact hs
  subst ha
  refine ⟨?_, l6, ⟨n1, n2, n3⟩, fun y hy => (hb y hy).1⟩
  rw [t1, t2, t3]
  simp [hitB]
theorem pLoop_inv {b : ByteArray} : ∀ (k : Nat) (a a' : Nat) (l L : List Hv), a ≤ b.size → GoodH l → pLoop b k (.ok a) l = (.ok a', L) →
    ∃ M, L = l ++ M ∧ M.length = k ∧ tl b a = hitsB M ++ tl b a' ∧ a' ≤ b.size ∧ GoodH L
  | 0, a, a', l, L, ha, hg, h => by
    unfold pLoop at h
    simp only [Prod.mk.injEq, Except.ok.injEq] at h
    obtain ⟨rfl, rfl⟩ := h
    exact ⟨[], by simp, rfl, by simp [hitsB], ha, hg⟩
  | k + 1, a, a', l, L, ha, hg, h => by
    rw [pLoop_step] at h
    obtain ⟨s1, x, hx⟩ : ∃ s1 x, hitR b l.getLast? (.ok a) = (s1, x) := ⟨_, _, rfl⟩
    rw [hx] at h
    simp only at h
    cases s1 with
    | error e => rw [pLoop_err] at h; simp at h
    | ok a1 =>
      obtain ⟨t1, l1, n1, b1⟩ := hitR_inv hx
      obtain ⟨M, rfl, hM, t2, l2, g2⟩ := pLoop_inv k a1 a' (l ++ [x]) L l1 (hg.snoc n1 b1) h
      refine ⟨x :: M, by simp, by simp [hM], ?_, l2, g2⟩
      rw [t1, t2]
      simp [hitsB]
theorem pHits_inv {b : ByteArray} {a a' : Nat} {L : List Hv} (h : pHits b (.ok a) = (.ok a', L)) :
    tl b a = vNum L.length ++ hitsB L ++ tl b a' ∧ a' ≤ b.size ∧ L.length ≤ 65536 ∧ hitsE L L.length 0 = 0 := by
  unfold pHits at h
  obtain ⟨s1, n, hn⟩ : ∃ s1 n, pNum b 65536 43 (.ok a) = (s1, n) := ⟨_, _, rfl⟩
  rw [hn] at h
  cases s1 with
  | error e => rw [pLoop_err] at h; simp at h
  | ok a1 =>
    obtain ⟨t1, l1, l2, n1, n2⟩ := pNum_inv hn (by decide)
    simp only at h
    obtain ⟨M, hM1, hM2, t2, l3, g⟩ := pLoop_inv _ a1 a' [] L l2 GoodH.nil h
    rw [List.nil_append] at hM1
    subst hM1
    have hnn : n = (L.length : Int) := by omega
    refine ⟨by rw [t1, t2, hnn, List.append_assoc], l3, by omega, g.zero _⟩
theorem askO_ok {b1 b2 b3 b4 : Bool} {op id : Int} {c : ByteArray} {k rr : Int} (hF : askF b1 b2 b3 b4 id c k rr = false) (h0 : 0 ≤ id) (h1 : 0 ≤ k) (h2 : 0 ≤ rr) (h3 : c.size ≤ 65536) :
    askO b1 b2 b3 b4 op id c k rr = (askB b1 b2 b3 b4 op id c k rr, 0) := by
  have hl : lowE id c k rr = 0 := by
    unfold lowE
    rw [if_neg (by omega), if_neg (by omega)]
  unfold askO
  rw [hF, hl]
  simp
theorem ask_fin {b : ByteArray} {op id : Int} {c : ByteArray} {k rr : Int} {b1 b2 b3 b4 : Bool} (hr : 1 ≤ op ∧ op ≤ 9) (hn : nm' op = (b1, b2, b3, b4)) (hF : askF b1 b2 b3 b4 id c k rr = false) (h0 : 0 ≤ id) (h1 : 0 ≤ k) (h2 : 0 ≤ rr) (h3 : c.size ≤ 65536)
    (hB : b.data.toList = askB b1 b2 b3 b4 op id c k rr) : askOut op id c k rr = (b.data.toList, 0) ∧ c.size ≤ 65536 := by
  refine ⟨?_, h3⟩
  rw [askOut_in _ _ _ _ _ hr, hn]
  simp only
  rw [askO_ok hF h0 h1 h2 h3, hB]
theorem num_end {b : ByteArray} {a a' : Nat} {n : Int} (h : aNum b (.ok a) = (.ok a', n)) : tl b a = vNum n ++ tl b a' ∧ a' ≤ b.size ∧ 0 ≤ n := by
  obtain ⟨t1, _, l2, n1, _⟩ := pNum_inv h (by decide)
  exact ⟨t1, l2, n1⟩
theorem ask1_inv (b : ByteArray) (h : pEnd b (ask1 b (.ok 2)).1 = 0) : ∃ id c, ask1 b (.ok 2) = ((ask1 b (.ok 2)).1, id, c, 0, 0) ∧ tl b 2 = vNum id ++ vNum c.size ++ c.data.toList ∧ 0 ≤ id ∧ c.size ≤ 65536 := by
  obtain ⟨a', he, ht⟩ := pEnd_inv h (NE.text (NE.num (NE.ok 2) (by decide)))
  obtain ⟨s1, id, h1⟩ : ∃ s1 id, aNum b (.ok 2) = (s1, id) := ⟨_, _, rfl⟩
  obtain ⟨s2, c, h2⟩ : ∃ s2 c, pText b s1 = (s2, c) := ⟨_, _, rfl⟩
  have e : ask1 b (.ok 2) = (s2, id, c, 0, 0) := by unfold ask1; rw [h1]; simp only; rw [h2]
  rw [e] at he ⊢
  simp only at he
  subst he
  obtain ⟨a1, rfl⟩ := pText_okS h2
  obtain ⟨t1, _, n1⟩ := num_end h1
  obtain ⟨t2, _, _, n2⟩ := pText_inv h2
  exact ⟨id, c, rfl, by rw [t1, t2, ht]; simp, n1, n2⟩
theorem ask2_inv (b : ByteArray) (h : pEnd b (ask2 b (.ok 2)).1 = 0) : ∃ id, ask2 b (.ok 2) = ((ask2 b (.ok 2)).1, id, ⟨#[]⟩, 0, 0) ∧ tl b 2 = vNum id ∧ 0 ≤ id := by
  obtain ⟨a', he, ht⟩ := pEnd_inv h (NE.num (NE.ok 2) (by decide))
  obtain ⟨s1, id, h1⟩ : ∃ s1 id, aNum b (.ok 2) = (s1, id) := ⟨_, _, rfl⟩
  have e : ask2 b (.ok 2) = (s1, id, ⟨#[]⟩, 0, 0) := by unfold ask2; rw [h1]
  rw [e] at he ⊢
  simp only at he
  subst he
  obtain ⟨t1, _, n1⟩ := num_end h1
  exact ⟨id, rfl, by rw [t1, ht]; simp, n1⟩
theorem ask4_inv (b : ByteArray) (h : pEnd b (ask4 b (.ok 2)).1 = 0) : ∃ c k, ask4 b (.ok 2) = ((ask4 b (.ok 2)).1, 0, c, k, 0) ∧ ask5 b (.ok 2) = ((ask4 b (.ok 2)).1, 0, c, 0, k) ∧ tl b 2 = vNum c.size ++ c.data.toList ++ vNum k ∧ 0 ≤ k ∧ c.size ≤ 65536 := by
  obtain ⟨a', he, ht⟩ := pEnd_inv h (NE.num (NE.text (NE.ok 2)) (by decide))
  obtain ⟨s1, c, h1⟩ : ∃ s1 c, pText b (.ok 2) = (s1, c) := ⟨_, _, rfl⟩
  obtain ⟨s2, k, h2⟩ : ∃ s2 k, aNum b s1 = (s2, k) := ⟨_, _, rfl⟩
  have e : ask4 b (.ok 2) = (s2, 0, c, k, 0) := by unfold ask4; rw [h1]; simp only; rw [h2]
  have e5 : ask5 b (.ok 2) = (s2, 0, c, 0, k) := by unfold ask5; rw [h1]; simp only; rw [h2]
  rw [e] at he ⊢
  rw [e5]
  simp only at he
  subst he
  obtain ⟨a1, rfl⟩ := pNum_okS h2
  obtain ⟨t1, _, _, n1⟩ := pText_inv h1
  obtain ⟨t2, _, n2⟩ := num_end h2
  exact ⟨c, k, rfl, rfl, by rw [t1, t2, ht]; simp, n2, n1⟩
/-- A request that is read, written again. -/
theorem asked_inv (b : ByteArray) (h : (askedR b).2 = 0) : ∃ op id c k rr a, (askedR b).1 = rqC op id c k rr ∧ (askOut op id c k rr = (b.data.toList, 0) ∧ c.size ≤ 65536) ∧ hd2 b 81 = .ok a := by
  unfold askedR at h ⊢
  cases hh : hd2 b 81 with
  | error e =>
    rw [hh] at h
    exact absurd h (NE.head b 81 e hh)
  | ok a0 =>
    rw [hh] at h
    simp only at h ⊢
    rw [if_pos h]
    obtain ⟨rfl, hb, hr⟩ := head_inv hh
    obtain ⟨op, hop⟩ : ∃ op, hdv b 81 = op := ⟨_, rfl⟩
    rw [hop] at h hb hr ⊢
    have hB : b.data.toList = [81, UInt8.ofNat op.toNat] ++ tl b 2 := hb
    have hc9 : op = 1 ∨ (op = 2 ∨ op = 3) ∨ op = 4 ∨ op = 5 ∨ (op = 6 ∨ op = 7 ∨ op = 8 ∨ op = 9) := by omega
    rcases hc9 with rfl | hc | rfl | rfl | hc
    · have e : askA b 1 (.ok 2) = ask1 b (.ok 2) := rfl
      rw [e] at h ⊢
      obtain ⟨id, c, e1, e2, n1, n2⟩ := ask1_inv b h
      rw [e1]
      exact ⟨1, id, c, 0, 0, 2, rfl, ask_fin hr rfl (by simp [askF]) n1 (by decide) (by decide) n2 (by rw [hB, e2]; simp [askB, numIf, textIf]), rfl⟩
    · have e : askA b op (.ok 2) = ask2 b (.ok 2) := by rcases hc with rfl | rfl <;> rfl
      rw [e] at h ⊢
      obtain ⟨id, e1, e2, n1⟩ := ask2_inv b h
      rw [e1]
      exact ⟨op, id, ⟨#[]⟩, 0, 0, 2, rfl, ask_fin hr (by rcases hc with rfl | rfl <;> rfl) (by simp [askF]) n1 (by decide) (by decide) (by decide) (by rw [hB, e2]; simp [askB, numIf, textIf]), rfl⟩
    · have e : askA b 4 (.ok 2) = ask4 b (.ok 2) := rfl
      rw [e] at h ⊢
      obtain ⟨c, k, e1, _, e2, n1, n2⟩ := ask4_inv b h
      rw [e1]
      exact ⟨4, 0, c, k, 0, 2, rfl, ask_fin hr rfl (by simp [askF]) (by decide) n1 (by decide) n2 (by rw [hB, e2]; simp [askB, numIf, textIf]), rfl⟩
    · have e : askA b 5 (.ok 2) = ask5 b (.ok 2) := rfl
      rw [e] at h ⊢
      have h4 : pEnd b (ask4 b (.ok 2)).1 = 0 := h
      obtain ⟨c, k, _, e1, e2, n1, n2⟩ := ask4_inv b h4
      rw [e1]
      exact ⟨5, 0, c, 0, k, 2, rfl, ask_fin hr rfl (by simp [askF]) (by decide) (by decide) n1 n2 (by rw [hB, e2]; simp [askB, numIf, textIf]), rfl⟩
    · have e : askA b op (.ok 2) = ask6 b (.ok 2) := by rcases hc with rfl | rfl | rfl | rfl <;> rfl
      rw [e] at h ⊢
      obtain ⟨a', he, ht⟩ := pEnd_inv h (NE.ok 2)
      have he2 : a' = 2 := by cases he; rfl
      subst he2
      exact ⟨op, 0, ⟨#[]⟩, 0, 0, 2, rfl, ask_fin hr (by rcases hc with rfl | rfl | rfl | rfl <;> rfl) (by simp [askF]) (by decide) (by decide) (by decide) (by decide) (by rw [hB, ht]; simp [askB, numIf, textIf]), rfl⟩

theorem es : (⟨#[]⟩ : ByteArray).size = 0 := rfl
theorem tellO_ok {kd : Nat} {op code n : Int} {t : ByteArray} {z : List Hv} (hb : tellBad kd code n t z.length = false) (hc : code ≠ 0 ∨ bodyE kd n t z = 0) :
    tellO kd op code n t z = ([82, UInt8.ofNat op.toNat] ++ vNum code ++ (if code = 0 then bodyB kd n t z else []), 0) := by
  unfold tellO
  rw [hb]
  by_cases h : code = 0
  · have h2 : bodyE kd n t z = 0 := by rcases hc with h' | h'; exact absurd h h'; exact h'
    simp [h, h2]
  · simp [h]
/-- A reply that is read, written again. -/
theorem told_inv (b : ByteArray) (h : pEnd b (toldS b).1 = 0) : ∃ op code n t L a, hdv b 82 = op ∧ (toldS b).2 = (code, n, t, L) ∧ (tellOut op code n t L = (b.data.toList, 0) ∧ t.size + (hitsB L).length ≤ b.size) ∧ hd2 b 82 = .ok a := by
  cases hh : hd2 b 82 with
  | error e =>
    have e1 : toldS b = (.error e, 0, 0, ⟨#[]⟩, []) := by unfold toldS; rw [hh]; rfl
    rw [e1] at h
    exact absurd h (NE.head b 82 e hh)
  | ok a0 =>
    obtain ⟨rfl, hb, hr⟩ := head_inv hh
    obtain ⟨op, hop⟩ : ∃ op, hdv b 82 = op := ⟨_, rfl⟩
    rw [hop] at hb hr ⊢
    have hB : b.data.toList = [82, UInt8.ofNat op.toNat] ++ tl b 2 := hb
    obtain ⟨s1, code, hp⟩ : ∃ s1 code, pNum b 999 13 (.ok 2) = (s1, code) := ⟨_, _, rfl⟩
    have hne := NE.num (b := b) (most := 999) (E := 13) (NE.ok 2) (by decide)
    rw [hp] at hne
    unfold toldS at h ⊢
    rw [hh, hp, hop] at h
    rw [hh, hp, hop]
    cases s1 with
    | error e => exact absurd h (hne e rfl)
    | ok a1 =>
      obtain ⟨t1, _, l1, n1, n2⟩ := pNum_inv hp (by decide)
      have hto : tellOut op code = fun n t z => tellO (kdOf op) op code n t z := by
        funext n t z
        unfold tellOut
        rw [if_neg (fun hx => hx hr), if_neg (by omega)]
      simp only at h ⊢
      by_cases hc : code = 0
      · subst hc
        rw [if_pos rfl] at h ⊢
        simp only at h ⊢
        have hk : kdOf op = 3 ∨ kdOf op = 4 ∨ kdOf op = 6 ∨ kdOf op = 1 := by unfold kdOf; (repeat' split) <;> simp
        refine ⟨op, 0, _, _, _, 2, rfl, rfl, ?_, rfl⟩
        rw [hto]
        simp only
        generalize kdOf op = kd at hk h ⊢
        have fin : ∀ (n : Int) (t : ByteArray) (z : List Hv), tellBad kd 0 n t z.length = false → bodyE kd n t z = 0 → tl b a1 = bodyB kd n t z → t.size + (hitsB z).length ≤ (bodyB kd n t z).length → tellO kd op 0 n t z = (b.data.toList, 0) ∧ t.size + (hitsB z).length ≤ b.size := by
          intro n t z h1 h2 h3 h4
          refine ⟨by rw [tellO_ok h1 (.inr h2), if_pos rfl, hB, t1, h3, List.append_assoc], ?_⟩
          have : (tl b a1).length ≤ b.size := by unfold tl; rw [List.length_drop, size_len]; omega
          rw [h3] at this
          omega
        rcases hk with rfl | rfl | rfl | rfl
        · rw [toldR3] at h ⊢
          obtain ⟨a', he, ht⟩ := pEnd_inv h (NE.text (NE.ok a1))
          obtain ⟨s2, t, h2⟩ : ∃ s2 t, pText b (.ok a1) = (s2, t) := ⟨_, _, rfl⟩
          rw [h2] at he ⊢
          simp only at he ⊢
          subst he
          obtain ⟨t2, _, _, n3⟩ := pText_inv h2
          refine fin 0 t [] (by simp [tellBad, zeroB]) ?_ (by rw [t2, ht]; simp [bodyB]) (by simp [bodyB, hitsB])
          have d : decide (65536 < (t.size : Int)) = false := by simp; omega
          simp only [bodyE, if_pos, d]
          simp [rf]
        · rw [toldR4] at h ⊢
          obtain ⟨a', he, ht⟩ := pEnd_inv h (NE.hits (NE.ok a1))
          obtain ⟨s2, L, h2⟩ : ∃ s2 L, pHits b (.ok a1) = (s2, L) := ⟨_, _, rfl⟩
          rw [h2] at he ⊢
          simp only at he ⊢
          subst he
          obtain ⟨t2, _, n3, n4⟩ := pHits_inv h2
          have hnl : ¬ 65536 < L.length := by omega
          refine fin 0 ⟨#[]⟩ L (by simp [tellBad, zeroB]) ?_ (by rw [t2, ht]; simp [bodyB, hnl]) (by have := es; simp [bodyB, hnl]; omega)
          simp [bodyE, hnl, n4]
        · rw [toldR6] at h ⊢
          obtain ⟨a', he, ht⟩ := pEnd_inv h (NE.num (NE.ok a1) (by decide))
          obtain ⟨s2, n, h2⟩ : ∃ s2 n, aNum b (.ok a1) = (s2, n) := ⟨_, _, rfl⟩
          rw [h2] at he ⊢
          simp only at he ⊢
          subst he
          obtain ⟨t2, _, n3⟩ := num_end h2
          refine fin n ⟨#[]⟩ [] (by simp [tellBad, zeroB]) ?_ (by rw [t2, ht]; simp [bodyB]) (by have := es; simp [hitsB]; omega)
          have d : decide (n < 0) = false := by simp; omega
          simp [bodyE, d, rf]
        · rw [toldR1] at h ⊢
          obtain ⟨a', he, ht⟩ := pEnd_inv h (NE.ok a1)
          have he2 : a1 = a' := by cases he; rfl
          subst he2
          exact fin 0 ⟨#[]⟩ [] (by simp [tellBad, zeroB]) (by simp [bodyE]) (by rw [ht]; simp [bodyB]) (by have := es; simp [hitsB]; omega)
      · rw [if_neg hc] at h ⊢
        simp only at h ⊢
        obtain ⟨a', he, ht⟩ := pEnd_inv h (NE.ok a1)
        have he2 : a1 = a' := by cases he; rfl
        subst he2
        refine ⟨op, code, 0, ⟨#[]⟩, [], 2, rfl, rfl, ⟨?_, by have := es; simp [hitsB]; omega⟩, rfl⟩
        rw [hto]
        simp only
        have hbad : tellBad (kdOf op) code 0 ⟨#[]⟩ ([] : List Hv).length = false := by
          have hz : zeroB 0 ⟨#[]⟩ 0 = true := by simp [zeroB]
          unfold tellBad
          simp only [List.length_nil, hz]
          simp
        rw [tellO_ok hbad (.inl hc), if_neg hc, hB, t1, ht]
        simp
end Go.Proofs.Ytabhjkaheghbhaa

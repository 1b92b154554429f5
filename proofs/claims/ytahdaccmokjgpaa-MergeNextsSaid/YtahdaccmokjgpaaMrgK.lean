/-
  A MERGER's state as plain Lean: what each call keeps; and what its calls turn in memory.
-/
import Derived.Test.YtahdaccmokjgpaaMrgB
namespace Go.Proofs.Ytahdaccmokjgpaa
open Go.RowKit ArgK
set_option linter.unusedVariables false

theorem asked_some {s : Sst} {e : Ent} (h : s.asked.2.2 = some e) : s.asked.1 = s.next ∧ s.es[s.used]? = some e ∧ s.mute = false ∧ s.asked.2.1 = 0 := by
  unfold Sst.asked at h ⊢
  cases hm : s.mute
  · rw [hm] at h
    simp only [Bool.false_eq_true, if_false] at h ⊢
    cases ho : s.es[s.used]? with
    | none => rw [ho] at h; cases h
    | some x =>
      rw [ho] at h
      simp only at h ⊢
      cases hl : s.last with
      | none => rw [hl] at h; simp only at h ⊢; cases h; simp
      | some l =>
        rw [hl] at h
        simp only at h ⊢
        split at h
        · next hlt => rw [if_pos hlt]; cases h; simp
        · cases h
  · rw [hm] at h
    simp at h

theorem next_last {s : Sst} {e : Ent} (h : s.es[s.used]? = some e) : s.next.last = some e ∧ s.next.used ≤ s.next.es.length := by
  have hl := (List.getElem?_eq_some_iff.1 h).1
  refine ⟨?_, ?_⟩
  · unfold Sst.last Sst.next
    simp only [Nat.add_one_ne_zero, if_false, Nat.add_sub_cancel]
    exact h
  · show s.used + 1 ≤ s.es.length
    omega

/-- A merger's state is whole: what stands is what its source gave last. -/
structure MOk (n : Nat) (m : Mst) : Prop where
  lenS : m.S.length = n
  lenF : m.F.length = n
  std : ∀ (i : Nat) (e : Ent), m.F[i]? = some (some e) → ∃ st : Sst, m.S[i]? = some st ∧ st.last = some e ∧ st.used ≤ st.es.length ∧ st.mute = false

theorem ask_none {m : Mst} {i : Nat} (h : m.S[i]? = none) : m.ask i = m := by
  unfold Mst.ask
  rw [h]

theorem ask_some {m : Mst} {i : Nat} {st : Sst} (h : m.S[i]? = some st) : m.ask i = { m with S := m.S.set i st.asked.1, F := m.F.set i st.asked.2.2, bad := st.asked.2.1 } := by
  unfold Mst.ask
  rw [h]

theorem MOk.ask {n : Nat} {m : Mst} (h : MOk n m) (i : Nat) : MOk n (m.ask i) := by
  cases hs : m.S[i]? with
  | none => rw [ask_none hs]; exact h
  | some st =>
    rw [ask_some hs]
    have hi := (List.getElem?_eq_some_iff.1 hs).1
    have hif : i < m.F.length := by rw [h.lenF, ← h.lenS]; exact hi
    refine ⟨by simp [h.lenS], by simp [h.lenF], fun j e hj => ?_⟩
    simp only at hj ⊢
    by_cases hji : j = i
    · subst hji
      rw [List.getElem?_set_self hif] at hj
      obtain ⟨e1, e2, e3, _⟩ := asked_some (Option.some.inj hj)
      refine ⟨st.next, by rw [List.getElem?_set_self hi, e1], (next_last e2).1, (next_last e2).2, e3⟩
    · rw [List.getElem?_set_ne (fun e => hji e.symm)] at hj
      rw [List.getElem?_set_ne (fun e => hji e.symm)]
      exact h.std j e hj

theorem MOk.asks {n : Nat} : ∀ {l : List Nat} {m : Mst}, MOk n m → MOk n (m.asks l)
  | [], m, h => h
  | i :: l, m, h => by
    rw [Mst.asks]
    split
    · exact h.ask i
    · exact (h.ask i).asks

theorem off_get {p : Ent} {F : List (Option Ent)} {j : Nat} {e : Ent} : (offPlace p F)[j]? = some (some e) ↔ F[j]? = some (some e) ∧ ¬ eat p e := by
  unfold offPlace
  rw [List.getElem?_map]
  cases F[j]? with
  | none => simp
  | some o =>
    cases o with
    | none => simp
    | some x =>
      simp only [Option.map_some, Option.some.injEq]
      by_cases h : eat p x
      · rw [if_pos h]
        simp only [reduceCtorEq, false_iff]
        rintro ⟨rfl, h2⟩
        exact h2 h
      · rw [if_neg h]
        simp only [Option.some.injEq]
        exact ⟨fun e => ⟨e, e ▸ h⟩, fun e => e.1⟩

theorem off_length (p : Ent) (F : List (Option Ent)) : (offPlace p F).length = F.length := by simp [offPlace]

theorem off_none {p : Ent} {F : List (Option Ent)} {j : Nat} {e : Ent} (h : F[j]? = some (some e)) (he : eat p e) : (offPlace p F)[j]? = some none := by
  unfold offPlace
  rw [List.getElem?_map, h]
  simp [he]

theorem MOk.off {n : Nat} {m : Mst} (h : MOk n m) (p : Ent) : MOk n { m with F := offPlace p m.F } :=
  ⟨h.lenS, by show (offPlace p m.F).length = n; rw [off_length]; exact h.lenF, fun j e hj => h.std j e (off_get.1 hj).1⟩

theorem MOk.badSet {n : Nat} {m : Mst} (h : MOk n m) (b : Int) : MOk n { m with bad := b } := ⟨h.lenS, h.lenF, h.std⟩

theorem standsFrom_length : ∀ (F : List (Option Ent)) (k : Nat), (standsFrom k F).length ≤ F.length
  | [], k => Nat.le_refl _
  | none :: F, k => by rw [standsFrom]; exact Nat.le_succ_of_le (standsFrom_length F (k + 1))
  | some e :: F, k => by rw [standsFrom]; exact Nat.succ_le_succ (standsFrom_length F (k + 1))

theorem stands_length (F : List (Option Ent)) : (stands F).length ≤ F.length := standsFrom_length F 0

/-- What is left to ask of a source. -/
def Sst.left (s : Sst) : Nat := if s.mute then 0 else s.es.length + 1 - s.used

theorem asked_left (s : Sst) : s.asked.1.left ≤ s.left := by
  rw [(asked_cases s).1]
  split
  · exact Nat.le_refl _
  · next h =>
    unfold Sst.left
    show (if s.mute then 0 else s.es.length + 1 - (s.used + 1)) ≤ _
    split <;> omega

theorem asked_left_lt {s : Sst} (hm : s.mute = false) (hu : s.used ≤ s.es.length) : s.asked.1.left < s.left := by
  rw [(asked_cases s).1, hm]
  unfold Sst.left
  show (if s.mute then 0 else s.es.length + 1 - (s.used + 1)) < _
  rw [hm]
  simp only [Bool.false_eq_true, if_false]
  omega

def sumLeft (S : List Sst) : Nat := (S.map Sst.left).sum

theorem left_eq (m : Mst) : m.left = sumLeft m.S := rfl

theorem sumLeft_set : ∀ (S : List Sst) (i : Nat) (st : Sst) (x : Sst), S[i]? = some st → sumLeft (S.set i x) + st.left = sumLeft S + x.left
  | [], i, st, x, h => by simp at h
  | s :: S, 0, st, x, h => by
    simp at h
    subst h
    simp [sumLeft]
    omega
  | s :: S, i + 1, st, x, h => by
    have := sumLeft_set S i st x (by simpa using h)
    simp [sumLeft] at this ⊢
    omega

theorem ask_left (m : Mst) (i : Nat) : (m.ask i).left ≤ m.left := by
  cases hs : m.S[i]? with
  | none => rw [ask_none hs]; exact Nat.le_refl _
  | some st =>
    rw [ask_some hs, left_eq, left_eq]
    have h1 := sumLeft_set m.S i st st.asked.1 hs
    have h2 := asked_left st
    simp only
    omega

theorem ask_left_lt {m : Mst} {i : Nat} {st : Sst} (hs : m.S[i]? = some st) (hm : st.mute = false) (hu : st.used ≤ st.es.length) : (m.ask i).left < m.left := by
  rw [ask_some hs, left_eq, left_eq]
  have h1 := sumLeft_set m.S i st st.asked.1 hs
  have h2 := asked_left_lt hm hu
  simp only
  omega

theorem asks_left : ∀ (l : List Nat) (m : Mst), (m.asks l).left ≤ m.left
  | [], m => Nat.le_refl _
  | i :: l, m => by
    rw [Mst.asks]
    split
    · exact ask_left m i
    · exact Nat.le_trans (asks_left l _) (ask_left m i)

/-- A step that finds one asks one source at least. -/
theorem step_left {n : Nat} {m : Mst} (h : MOk n m) (hb : m.bad = 0) (hs : m.step.2.2 = true) : m.step.1.left < m.left := by
  unfold Mst.step at hs ⊢
  cases hl : leastE (stands m.F) with
  | none => rw [hl] at hs; simp at hs
  | some p =>
    rw [hl] at hs
    simp only at hs ⊢
    cases hw : wordOf (atPlace p (stands m.F)) with
    | none => rw [hw] at hs; simp at hs
    | some b =>
      rw [hw] at hs
      simp only at hs ⊢
      obtain ⟨⟨x, hx, hxp⟩, _⟩ := leastE_some hl
      have hx2 : x ∈ atPlace p (stands m.F) := List.mem_filter.2 ⟨hx, by rw [hxp]; simp [eat_refl]⟩
      generalize hl2 : atPlace p (stands m.F) = l at *
      match l, hx2 with
      | y :: l, _ =>
        have hy : y ∈ stands m.F := (List.mem_filter.1 (hl2 ▸ (by simp : y ∈ y :: l))).1
        obtain ⟨st, h1, h2, h3, h4⟩ := h.std y.n y.e (stands_mem.1 hy)
        have key : (({ m with F := offPlace p m.F } : Mst).asks ((y :: l).map Hdv.n)).left < m.left := by
          rw [List.map_cons, Mst.asks]
          have h5 := ask_left_lt (m := { m with F := offPlace p m.F }) h1 h4 h3
          have h6 : ({ m with F := offPlace p m.F } : Mst).left = m.left := rfl
          split
          · omega
          · have := asks_left (l.map Hdv.n) (({ m with F := offPlace p m.F } : Mst).ask y.n)
            omega
        split
        · exact key
        · exact key

/-- What calls on a merger turn, its own block too. -/
def NK (B : Nat) (T : List TypeId) (mb hb : Nat) (w : World) (v : Value) (w' : World) (v' : Value) : Prop :=
  Fm B T [some mb, some hb, v.ownBlock] w w' ∧ (v'.ownBlock = v.ownBlock ∨ ∀ g, v'.ownBlock = some g → w.heap.size ≤ g)

theorem NK.of_mk {B : Nat} {T : List TypeId} {mb hb : Nat} {w w' : World} {v v' : Value} (h : MK B T hb w v w' v') : NK B T mb hb w v w' v' :=
  ⟨h.1.mono (fun t ht => ht) (fun x hx => by simp at hx ⊢; exact .inr hx), h.2⟩

theorem NK.refl (B : Nat) (T : List TypeId) (mb hb : Nat) (w : World) (v : Value) : NK B T mb hb w v w v := ⟨Fm.refl _ _ _ _, .inl rfl⟩

theorem NK.of_below {B : Nat} {T : List TypeId} {mb hb : Nat} {w w' : World} {v : Value} (h : Below w.heap.size w w') : NK B T mb hb w v w' v := ⟨Fm.of_below h, .inl rfl⟩

theorem NK.trans {B : Nat} {T : List TypeId} {mb hb : Nat} {a b c : World} {v v1 v2 : Value} (h : NK B T mb hb a v b v1) (k : NK B T mb hb b v1 c v2) : NK B T mb hb a v c v2 := by
  refine ⟨h.1.trans k.1 (fun x hx hlt => ?_), ?_⟩
  · simp only [List.mem_cons, List.not_mem_nil, or_false] at hx ⊢
    rcases hx with hx | hx | hx
    · exact .inl hx
    · exact .inr (.inl hx)
    · rcases h.2 with e | e
      · exact .inr (.inr (hx.trans e))
      · have := e x hx.symm; omega
  · rcases k.2 with e | e
    · rcases h.2 with e' | e'
      · exact .inl (e.trans e')
      · exact .inr (fun g hg => e' g (by rw [← e]; exact hg))
    · exact .inr (fun g hg => Nat.le_trans h.1.size (e g hg))

/-- A merger's block is written. -/
theorem NK.setM {B : Nat} {T : List TypeId} {mb hb : Nat} {a b : World} {v v1 : Value} (h : NK B T mb hb a v b v1) (k : Nat) (u : Value) : NK B T mb hb a v (b.setCell ⟨mb, k, none⟩ u) v1 := by
  refine ⟨?_, h.2⟩
  refine Fm.trans h.1 (Y := [some mb]) (Fm.of_fr ((Fr.refl b _).setCell (p := ⟨mb, k, none⟩) (fun _ => by simp) u)) (fun x hx _ => ?_)
  simp at hx ⊢
  exact .inl hx

/-- A merger in memory, whole: itself, its sources, its heads; what was turned since a world. -/
def AskInv (w0 : World) (v0 : Value) (B : Nat) (T : List TypeId) (mb hb : Nat) (sv : Value) (fs : List Value) (bottom begun : Bool) (code : Int) (I : World → List Sst → Prop) (m : Mst) (wr : World) : Prop :=
  MrgIs wr B mb hb sv fs bottom begun code ∧ I wr m.S ∧ ∃ v L, PileD wr B hb v L ∧ HeapG abv L ∧ (m.bad = 0 → L.Perm (stands m.F)) ∧ NK B T mb hb w0 v0 wr v

theorem AskInv.below {w0 : World} {v0 : Value} {B : Nat} {T : List TypeId} {mb hb : Nat} {sv : Value} {fs : List Value} {bottom begun : Bool} {code : Int} {I : World → List Sst → Prop} {m : Mst} {wr W : World} (hF : FeedLaw B T fs I) (h : AskInv w0 v0 B T mb hb sv fs bottom begun code I m wr) (hbl : Below wr.heap.size wr W) : AskInv w0 v0 B T mb hb sv fs bottom begun code I m W := by
  obtain ⟨h1, h2, v, L, h3, h4, h5, h6⟩ := h
  exact ⟨h1.fm (X := []) (T := []) (Fm.of_below (B := B) hbl) ⟨by simp, by simp, by simp, by simp, by simp⟩ (by simp) (by simp), hF.keep h2 (Kp.of_below hbl), v, L, h3.keep (T := []) (Kp.of_below (B := B) hbl) (by simp) (by simp), h4, h5, h6.trans (NK.of_below hbl)⟩

theorem AskInv.ask {w0 : World} {v0 : Value} {B : Nat} {T : List TypeId} {mb hb : Nat} {sv : Value} {fs : List Value} {bottom begun : Bool} {code : Int} {I : World → List Sst → Prop} {m : Mst} {wr : World} {i : Nat} {st : Sst} {lv : Value} (hF : FeedLaw B T fs I) (h : AskInv w0 v0 B T mb hb sv fs bottom begun code I m wr)
    (hbad : m.bad = 0) (hs : m.S[i]? = some st) (hf : m.F[i]? = some none) (hu : st.used ≤ st.es.length) (hn : fs.length ≤ 1024) (hm : MOk fs.length m) (hB : B ≤ wr.heap.size) (hl : LastIs wr lv st.last) :
    Calls Try.prog 53 #[.pointer (some ⟨mb, 0, none⟩), .int .i64 i, lv] wr fun e w' => e = .returned (.int .i64 (m.ask i).bad) ∧ AskInv w0 v0 B T mb hb sv fs bottom begun code I (m.ask i) w' ∧ ∃ v v', NK B T mb hb w0 v0 wr v ∧ MK B T hb wr v w' v' := by
  obtain ⟨h1, h2, v, L, h3, h4, h5, h6⟩ := h
  have hL : L.length ≤ 1000000 := by
    rw [(h5 hbad).length_eq]
    have := stands_length m.F
    have := hm.lenF
    omega
  refine (ask_calls hF h1 h3 h4 h2 hs hu hn hL hB hl).mono ?_
  rintro e w' ⟨rfl, hI, v', L', k1, k2, k3, k4⟩
  rw [ask_some hs]
  refine ⟨rfl, ⟨h1.keeps h3 hF.tok k4, hI, v', L', k1, k2, fun hb2 => ?_, h6.trans (NK.of_mk k4)⟩, v, v', h6, k4⟩
  show L'.Perm (stands (m.F.set i st.asked.2.2))
  cases hx : st.asked.2.2 with
  | none => rw [set_none_self hf]; rw [hx] at k3; exact k3.trans (h5 hbad)
  | some x => rw [hx] at k3; exact k3.trans (((h5 hbad).cons _).trans (stands_set hf).symm)
end Go.Proofs.Ytahdaccmokjgpaa

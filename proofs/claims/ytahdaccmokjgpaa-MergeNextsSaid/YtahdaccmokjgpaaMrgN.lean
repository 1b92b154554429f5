/-
  NEXT of a merger: laws for its walk.
-/
import Derived.Test.YtahdaccmokjgpaaMrgV
namespace Go.Proofs.Ytahdaccmokjgpaa
open Go.RowKit ArgK
set_option linter.unusedVariables false

/-- What of a source never turns. -/
def Sst.stat (s : Sst) : List Ent × Int × Bool := (s.es, s.fin, s.mute)

theorem asked_stat (s : Sst) : s.asked.1.stat = s.stat := by
  rw [(asked_cases s).1]
  split <;> rfl

theorem ask_stat (m : Mst) (i : Nat) : (m.ask i).S.map Sst.stat = m.S.map Sst.stat ∧ (m.ask i).begun = m.begun := by
  cases hs : m.S[i]? with
  | none => rw [ask_none hs]; exact ⟨rfl, rfl⟩
  | some st =>
    rw [ask_some hs]
    refine ⟨?_, rfl⟩
    show (m.S.set i st.asked.1).map Sst.stat = _
    rw [List.map_set, asked_stat]
    apply List.ext_getElem?
    intro j
    by_cases hj : j = i
    · subst hj
      have := (List.getElem?_eq_some_iff.1 hs).1
      rw [List.getElem?_set_self (by simpa using this), List.getElem?_map, hs]
      rfl
    · rw [List.getElem?_set_ne (fun e => hj e.symm)]

theorem asks_stat : ∀ (l : List Nat) (m : Mst), (m.asks l).S.map Sst.stat = m.S.map Sst.stat ∧ (m.asks l).begun = m.begun
  | [], m => ⟨rfl, rfl⟩
  | i :: l, m => by
    rw [Mst.asks]
    split
    · exact ask_stat m i
    · exact ⟨(asks_stat l _).1.trans (ask_stat m i).1, (asks_stat l _).2.trans (ask_stat m i).2⟩

theorem step_stat (m : Mst) : m.step.1.S.map Sst.stat = m.S.map Sst.stat ∧ m.step.1.begun = m.begun := by
  cases hl : leastE (stands m.F) with
  | none => rw [step_none hl]; exact ⟨rfl, rfl⟩
  | some q =>
    cases hw : wordOf (atPlace q (stands m.F)) with
    | none => rw [step_twice hl hw]; exact ⟨rfl, rfl⟩
    | some b =>
      rw [step_some hl hw]
      split
      · exact asks_stat _ _
      · exact asks_stat _ _

theorem begin_stat (m : Mst) : m.begin.S.map Sst.stat = m.S.map Sst.stat ∧ m.begin.begun = true := asks_stat _ _

theorem step_ok {n : Nat} {m : Mst} (h : MOk n m) : MOk n m.step.1 := by
  cases hl : leastE (stands m.F) with
  | none => rw [step_none hl]; exact h
  | some q =>
    cases hw : wordOf (atPlace q (stands m.F)) with
    | none => rw [step_twice hl hw]; exact (h.off q).badSet 51
    | some b =>
      rw [step_some hl hw]
      split
      · exact (h.off q).asks
      · exact (h.off q).asks

theorem begin_ok {n : Nat} {m : Mst} (h : MOk n m) : MOk n m.begin := MOk.asks ⟨h.lenS, h.lenF, h.std⟩

/-- The numbers of all entries are ints. -/
def SWf (S : List Sst) : Prop := ∀ t ∈ S.map Sst.stat, ∀ e ∈ t.1, (Lit.int .i64 e.s).wf = true

theorem SWf.of {S S' : List Sst} (h : SWf S) (e : S'.map Sst.stat = S.map Sst.stat) : SWf S' := by
  unfold SWf
  rw [e]
  exact h

theorem last_mem {s : Sst} {e : Ent} (h : s.last = some e) : e ∈ s.es := by
  unfold Sst.last at h
  split at h
  · cases h
  · exact List.mem_of_getElem? h

theorem SWf.stands {n : Nat} {m : Mst} (h : SWf m.S) (hm : MOk n m) (i : Nat) (e : Ent) (he : m.F[i]? = some (some e)) : (Lit.int .i64 e.s).wf = true := by
  obtain ⟨st, h1, h2, _⟩ := hm.std i e he
  exact h st.stat (List.mem_map_of_mem (List.mem_of_getElem? h1)) e (last_mem h2)

/-- A merger's refusal is written. -/
theorem AskInv.setCode {w0 : World} {v0 : Value} {B : Nat} {T : List TypeId} {mb hb : Nat} {sv : Value} {fs : List Value} {bottom begun : Bool} {code : Int} {I : World → List Sst → Prop} {m : Mst} {wr : World} (hF : FeedLaw B T fs I) (h : AskInv w0 v0 B T mb hb sv fs bottom begun code I m wr) (c : Int) : AskInv w0 v0 B T mb hb sv fs bottom begun c I m (wr.setCell ⟨mb, 4, none⟩ (.int .i64 c)) := by
  obtain ⟨h1, h2, v, L, h3, h4, h5, h6⟩ := h
  have hbx := h1.box
  have hk1 : Kp B mTypes wr (wr.setCell ⟨mb, 4, none⟩ (.int .i64 c)) := (Kp.refl B mTypes wr).setCell h1.box (.inr ⟨h1.base, _, rfl, by unfold mTypes; simp⟩) _
  have hap := h1.apart h3
  simp only [List.mem_cons, List.not_mem_nil, or_false, not_or] at hap
  refine ⟨⟨by simp [World.setCell, Array.getElem?_modify, hbx], h1.base, hk1.own h1.row (.inl (by decide))⟩, hF.keep h2 hk1, v, L, ⟨?_, h3.base, own_setCell h3.row (p := ⟨mb, 4, none⟩) (fun e => hap.1.2 e.symm) _⟩, h4, h5, h6.setM 4 _⟩
  rw [Below.heap_setCell wr ⟨mb, 4, none⟩ _ hb (fun e => hap.1.1 (by rw [e]))]
  exact h3.box

/-- The types that a merger's calls turn, as their callers see it. -/
def mT3 : List TypeId := [88, 84, 100]

theorem NK.kp3 {w w' : World} {B mb hb : Nat} {sv v v' : Value} {fs : List Value} {bottom begun : Bool} {code : Int} {L : List Hdv} {T : List TypeId} (hM : MrgIs w B mb hb sv fs bottom begun code) (hP : PileD w B hb v L) (k : NK B T mb hb w v w' v') : Kp B (mT3 ++ T) w w' := by
  refine ⟨k.1.1, k.1.2.1, k.1.2.2.1, k.1.2.2.2.1, fun b o ho hx => k.1.2.2.2.2 b o ho (hx.imp id (fun hx t ht hm => hx t ht (List.mem_append_right _ hm))) (fun hm => ?_)⟩
  have hty : ∀ t, tyO o = some t → t ∈ mT3 → b < B := fun t ht hm => by
    rcases hx with hx | hx
    · exact hx
    · exact absurd (List.mem_append_left _ hm) (hx t ht)
  simp only [List.mem_cons, List.not_mem_nil, or_false, Option.some.injEq] at hm
  rcases hm with hm | hm | hm
  · subst hm
    have h1 := hM.box
    rw [h1] at ho
    cases ho
    have := hty _ rfl (by unfold mT3; simp)
    have := hM.base
    omega
  · subst hm
    have h1 := hP.box
    rw [h1] at ho
    cases ho
    have := hty _ rfl (by unfold mT3; simp)
    have := hP.base
    omega
  · rcases hP.row.2 with ⟨e, _⟩ | ⟨g, c, cur, e, hg, hgh, _⟩
    · rw [e] at hm; cases hm
    · rw [e] at hm
      cases hm
      rw [hgh] at ho
      cases ho
      have h2 : g < B := hty _ rfl (by unfold mT3; simp)
      have h3 : B ≤ g := hg
      omega

/-- A merger between two calls. -/
def MerAt (w : World) (B mb hb : Nat) (sv : Value) (fs : List Value) (bottom : Bool) (I : World → List Sst → Prop) (m : Mst) : Prop :=
  MrgIs w B mb hb sv fs bottom m.begun m.bad ∧ I w m.S ∧ MOk fs.length m ∧ SWf m.S ∧ (m.begun = false → Fresh 0 m) ∧ ∃ v L, PileD w B hb v L ∧ HeapG abv L ∧ (m.bad = 0 → L.Perm (stands m.F))

/-- What Next leaves. -/
def NextPost (w : World) (B : Nat) (T : List TypeId) (mb hb : Nat) (sv : Value) (fs : List Value) (bottom : Bool) (I : World → List Sst → Prop) (r : (Ent × Bool × Int) × Mst) (e : Ending) (w' : World) : Prop :=
  e = .returned (.tuple #[r.1.1.val, .bool r.1.2.1, .int .i64 r.1.2.2]) ∧ MerAt w' B mb hb sv fs bottom I r.2 ∧ Kp B (mT3 ++ T) w w'

/-- A merger within Next. -/
def NextAt (w : World) (v0 : Value) (B : Nat) (T : List TypeId) (mb hb : Nat) (sv : Value) (fs : List Value) (bottom : Bool) (I : World → List Sst → Prop) (m : Mst) (wr : World) : Prop :=
  AskInv w v0 B T mb hb sv fs bottom m.begun m.bad I m wr ∧ MOk fs.length m ∧ SWf m.S ∧ (m.bad = 0 → m.begun = true) ∧ wr.heap[w.heap.size]? = some (eBlk zeroE) ∧ w.heap.size < wr.heap.size ∧ (m.begun = false → Fresh 0 m)

/-- At the head of each round of Next. -/
def NextRel (w : World) (v0 : Value) (B : Nat) (T : List TypeId) (mb hb : Nat) (sv : Value) (fs : List Value) (bottom : Bool) (I : World → List Sst → Prop) (r : (Ent × Bool × Int) × Mst) (f : Nat) (wr : World) : Prop :=
  ∃ m, NextAt w v0 B T mb hb sv fs bottom I m wr ∧ Mst.go bottom f m = r ∧ (m.bad = 0 → m.left < f)

theorem NextAt.stop {w : World} {v0 : Value} {B : Nat} {T : List TypeId} {mb hb : Nat} {sv : Value} {fs : List Value} {bottom : Bool} {I : World → List Sst → Prop} {r : (Ent × Bool × Int) × Mst} {m : Mst} {wr W : World} {L0 : List Hdv} {bottom' begun' : Bool} {code' : Int} {x : Ent} {b : Bool} {c : Int} (hF : FeedLaw B T fs I)
    (hM : MrgIs w B mb hb sv fs bottom' begun' code') (hP : PileD w B hb v0 L0) (hA : NextAt w v0 B T mb hb sv fs bottom I m wr) (hr : r = ((x, b, c), m)) (hB : B ≤ w.heap.size) (k : Fr wr W [some w.heap.size]) :
    NextPost w B T mb hb sv fs bottom I r (.returned (.tuple #[x.val, .bool b, .int .i64 c])) W := by
  subst hr
  obtain ⟨hA, hm, hs, _, hZ, _, hf⟩ := hA
  have hA2 := hA.far (cs := #[.int .i64 0, .string ⟨#[]⟩, .int .i64 0, .int .i64 0, .bool false]) (fr := (0, 0)) hF hZ (Nat.le_refl _) hB k
  obtain ⟨h1, h2, v, L, h3, h4, h5, h6⟩ := hA2
  exact ⟨rfl, ⟨h1, h2, hm, hs, hf, v, L, h3, h4, h5⟩, NK.kp3 hM hP h6⟩

theorem go_bad {bottom : Bool} {f : Nat} {m : Mst} (h : m.bad ≠ 0) : Mst.go bottom f m = ((zeroE, false, m.bad), m) := by
  cases f with
  | zero => rfl
  | succ f => unfold Mst.go; rw [if_pos h]

theorem go_step {bottom : Bool} {f : Nat} {m : Mst} (h : m.bad = 0) : Mst.go bottom (f + 1) m = if m.step.1.bad ≠ 0 then ((zeroE, false, m.step.1.bad), m.step.1) else if m.step.2.2 = false ∨ bottom = false ∨ m.step.2.1.d = false then ((m.step.2.1, m.step.2.2, 0), m.step.1) else Mst.go bottom f m.step.1 := by
  conv => lhs; unfold Mst.go
  rw [if_neg (by simpa using h)]

theorem next_bad {bottom : Bool} {m : Mst} (h : m.bad ≠ 0) : m.next bottom = ((zeroE, false, m.bad), m) := by
  unfold Mst.next
  rw [if_neg (fun k => h k.1)]
  exact go_bad h

theorem AskInv.base {w0 : World} {v0 : Value} {B : Nat} {T : List TypeId} {mb hb : Nat} {sv : Value} {fs : List Value} {bottom begun : Bool} {code : Int} {I : World → List Sst → Prop} {m : Mst} {wr : World} (h : AskInv w0 v0 B T mb hb sv fs bottom begun code I m wr) :
    ∃ v L, NK B T mb hb w0 v0 wr v ∧ PileD wr B hb v L ∧ AskInv wr v B T mb hb sv fs bottom begun code I m wr := by
  obtain ⟨h1, h2, v, L, h3, h4, h5, h6⟩ := h
  exact ⟨v, L, h6, h3, h1, h2, v, L, h3, h4, h5, NK.refl _ _ _ _ _ _⟩

theorem AskInv.rebase {w0 w1 : World} {v0 v1 : Value} {B : Nat} {T : List TypeId} {mb hb : Nat} {sv : Value} {fs : List Value} {bottom begun : Bool} {code : Int} {I : World → List Sst → Prop} {m : Mst} {wr : World} (h : AskInv w1 v1 B T mb hb sv fs bottom begun code I m wr) (k : NK B T mb hb w0 v0 w1 v1) : AskInv w0 v0 B T mb hb sv fs bottom begun code I m wr := by
  obtain ⟨h1, h2, v, L, h3, h4, h5, h6⟩ := h
  exact ⟨h1, h2, v, L, h3, h4, h5, k.trans h6⟩

/-- A result's block lives. -/
theorem AskInv.zero {w1 : World} {v1 : Value} {B : Nat} {T : List TypeId} {mb hb : Nat} {sv : Value} {fs : List Value} {bottom begun bottom' begun' : Bool} {code code' : Int} {I : World → List Sst → Prop} {m : Mst} {wr : World} {L1 : List Hdv} {R : Nat} {e : Ent} (hT : TOk T) (h : AskInv w1 v1 B T mb hb sv fs bottom begun code I m wr)
    (hM : MrgIs w1 B mb hb sv fs bottom' begun' code') (hP : PileD w1 B hb v1 L1) (hR : w1.heap[R]? = some (eBlk e)) : wr.heap[R]? = some (eBlk e) ∧ w1.heap.size ≤ wr.heap.size := by
  obtain ⟨h1, h2, v, L, h3, h4, h5, h6⟩ := h
  refine ⟨h6.1.box hR (.inl hT.e) ?_, h6.1.size⟩
  simp only [List.mem_cons, List.not_mem_nil, or_false, Option.some.injEq, not_or]
  refine ⟨fun e' => ?_, fun e' => ?_, fun e' => row_far hP.row hR (by decide) _ e'.symm rfl⟩
  · have := hM.box
    rw [← e', hR] at this
    cases this
  · have := hP.box
    rw [← e', hR] at this
    cases this

theorem NextAt.intro {w w1 : World} {v v1 : Value} {B : Nat} {T : List TypeId} {mb hb : Nat} {sv : Value} {fs : List Value} {bottom begun' : Bool} {code' : Int} {I : World → List Sst → Prop} {m : Mst} {wr : World} {L1 : List Hdv} (hF : FeedLaw B T fs I) (hM : MrgIs w1 B mb hb sv fs bottom begun' code') (hP : PileD w1 B hb v1 L1) (hZ : w1.heap[w.heap.size]? = some (eBlk zeroE))
    (hN : NK B T mb hb w v w1 v1) (hbg : m.begun = true) (hm : MOk fs.length m) (hs : SWf m.S) (hA : AskInv w1 v1 B T mb hb sv fs bottom true 0 I m wr) : NextAt w v B T mb hb sv fs bottom I m (wr.setCell ⟨mb, 4, none⟩ (.int .i64 m.bad)) := by
  have hz := hA.zero hF.tok hM hP hZ
  have hne : w.heap.size ≠ mb := fun e => by
    have := hM.box
    rw [← e, hZ] at this
    cases this
  have hlt := (Array.getElem?_eq_some_iff.1 hZ).1
  refine ⟨by rw [hbg]; exact (hA.rebase hN).setCode hF m.bad, hm, hs, fun _ => hbg, ?_, ?_, fun h => by rw [hbg] at h; cases h⟩
  · rw [Below.heap_setCell wr ⟨mb, 4, none⟩ _ w.heap.size hne]
    exact hz.1
  · simp [World.setCell]
    omega

theorem NextAt.below {w : World} {v : Value} {B : Nat} {T : List TypeId} {mb hb : Nat} {sv : Value} {fs : List Value} {bottom : Bool} {I : World → List Sst → Prop} {m : Mst} {wr W : World} (hF : FeedLaw B T fs I) (h : NextAt w v B T mb hb sv fs bottom I m wr) (k : Below wr.heap.size wr W) : NextAt w v B T mb hb sv fs bottom I m W := by
  obtain ⟨h1, h2, h3, h4, h5, h6, h7⟩ := h
  exact ⟨h1.below hF k, h2, h3, h4, (k.block _ h6).trans h5, Nat.lt_of_lt_of_le h6 k.size, h7⟩

/-- A write ahead of an alloc. -/
theorem Fr.inAlloc {a b : World} {X : List (Option Nat)} (h : Fr a b X) (hs : b.heap.size = a.heap.size) (o : Obj) : Fr (a.alloc o) (b.alloc o) X := by
  refine ⟨h.1, h.2.1, h.2.2.1, by simp; omega, fun k hk hX => ?_⟩
  by_cases hk2 : k < a.heap.size
  · rw [Below.heap_alloc b o k (by omega), Below.heap_alloc a o k hk2]
    exact h.2.2.2.2 k hk2 hX
  · have hk3 : k = a.heap.size := by simp at hk; omega
    have h1 := World.alloc_heap_new a o
    have h2 := World.alloc_heap_new b o
    rw [hs] at h2
    rw [hk3, h1, h2]

theorem set5_size (W : World) (g : Nat) (u0 u1 u2 u3 u4 : Value) : (((((W.setCell ⟨g, 0, none⟩ u0).setCell ⟨g, 1, none⟩ u1).setCell ⟨g, 2, none⟩ u2).setCell ⟨g, 3, none⟩ u3).setCell ⟨g, 4, none⟩ u4).heap.size = W.heap.size := by simp [World.setCell]

/-- What the loop of Next does with a step. -/
inductive StepWay (bottom : Bool) (f : Nat) (r : (Ent × Bool × Int) × Mst) (m' : Mst) (x : Ent) (more : Bool) : Prop
  | bad : m'.bad ≠ 0 → Mst.go bottom f m' = r → StepWay bottom f r m' x more
  | stop : m'.bad = 0 → (more = false ∨ bottom = false ∨ x.d = false) → r = ((x, more, 0), m') → StepWay bottom f r m' x more
  | on : m'.bad = 0 → more = true → bottom = true → x.d = true → Mst.go bottom f m' = r → m'.left < f → StepWay bottom f r m' x more

theorem step_way {bottom : Bool} {f n : Nat} {r : (Ent × Bool × Int) × Mst} {m m' : Mst} {x : Ent} {more : Bool} (hm : MOk n m) (hb : m.bad = 0) (hg : Mst.go bottom (f + 1) m = r) (hl : m.left < f + 1) (hst : m.step = (m', x, more)) : StepWay bottom f r m' x more := by
  have hlt := fun h => step_left hm hb (h : m.step.2.2 = true)
  rw [go_step hb, hst] at hg
  rw [hst] at hlt
  simp only at hg hlt
  by_cases h1 : m'.bad ≠ 0
  · rw [if_pos h1] at hg
    exact .bad h1 (by rw [go_bad h1]; exact hg)
  · rw [if_neg h1] at hg
    have h0 : m'.bad = 0 := by simpa using h1
    by_cases h2 : more = false ∨ bottom = false ∨ x.d = false
    · rw [if_pos h2] at hg
      exact .stop h0 h2 hg.symm
    · rw [if_neg h2] at hg
      have h3 : more = true := by cases more; exact absurd (.inl rfl) h2; rfl
      have h4 : bottom = true := by cases bottom; exact absurd (.inr (.inl rfl)) h2; rfl
      have h5 : x.d = true := by cases h : x.d; exact absurd (.inr (.inr h)) h2; rfl
      exact .on h0 h3 h4 h5 hg (by have := hlt h3; omega)
end Go.Proofs.Ytahdaccmokjgpaa

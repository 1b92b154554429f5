/-
  SOURCES OF LISTS: what is asked of a merger's sources is kept by them; a source of a list made.
-/
import Derived.Test.YtahdaccmokjgpaaMrgO
import Derived.Laws.EntriesVeiled
namespace Go.Proofs.Ytahdaccmokjgpaa
open Go.RowKit ArgK
set_option linter.unusedVariables false

/-- The function value of a list's source. -/
def ofV (b : Nat) : Value := .func (.func 52) #[] #[.pointer (some ⟨b, 0, none⟩)]

def ofT : List TypeId := [25]

theorem ofTok : TOk ofT := ⟨by decide, by decide, by decide, by decide, by decide⟩

theorem LstIs.lt {w : World} {B b : Nat} {L : List Ent} (h : LstIs w B b L) : b < w.heap.size := by
  obtain ⟨p, c, h1, _⟩ := h
  exact (Array.getElem?_eq_some_iff.1 h1).1

theorem EL.fr {w w' : World} {B : Nat} {p : Option Addr} {L : List Ent} (h : EL w B p L) (hk : ∀ g o, g < B → w.heap[g]? = some o → w'.heap[g]? = some o) : EL w' B p L := by
  intro i x hx
  obtain ⟨a, rfl, ha, h5⟩ := h i x hx
  have hlt := h5.lt
  rw [add_blockE] at hlt
  have e : w'.heap[(a.add (i * 5)).block]? = w.heap[(a.add (i * 5)).block]? := by
    rw [add_blockE, Array.getElem?_eq_getElem hlt]
    exact hk _ _ ha (Array.getElem?_eq_getElem hlt)
  exact ⟨a, rfl, ha, (World.cell?_of_block e).trans h5.1, (World.cell?_of_block (a := ⟨_, _, none⟩) e).trans h5.2.1, (World.cell?_of_block (a := ⟨_, _, none⟩) e).trans h5.2.2.1, (World.cell?_of_block (a := ⟨_, _, none⟩) e).trans h5.2.2.2.1, (World.cell?_of_block (a := ⟨_, _, none⟩) e).trans h5.2.2.2.2⟩

theorem LstIs.fr {w w' : World} {B b c : Nat} {L : List Ent} (h : LstIs w B b L) (k : Fr w w' [some c]) (hne : b ≠ c) (hB : B ≤ c) : LstIs w' B b L := by
  obtain ⟨p, cap, h1, h2, h3⟩ := h
  refine ⟨p, cap, (k.2.2.2.2 b (Array.getElem?_eq_some_iff.1 h1).1 (by simp; exact hne)).trans h1, h2, h3.fr (fun g o hg ho => (k.2.2.2.2 g (Array.getElem?_eq_some_iff.1 ho).1 (by simp; omega)).trans ho)⟩

theorem LstIs.kp {w w' : World} {B b : Nat} {T : List TypeId} {L : List Ent} (h : LstIs w B b L) (k : Kp B T w w') (hT : 25 ∉ T) : LstIs w' B b L := by
  obtain ⟨p, cap, h1, h2, h3⟩ := h
  exact ⟨p, cap, k.box h1 (.inl hT), h2, h3.fr (fun g o hg ho => k.2.2.2.2 g o ho (.inl hg))⟩

/-- Sources of lists in memory. -/
def OfI (B : Nat) (bs : List Nat) (w : World) (S : List Sst) : Prop :=
  S.length = bs.length ∧ bs.Nodup ∧ ∀ (i b : Nat) (st : Sst), bs[i]? = some b → S[i]? = some st → st.mute = false ∧ st.fin = 0 ∧ st.es.length ≤ 4398046511104 ∧ B ≤ b ∧ LstIs w B b (st.es.drop st.used)

theorem OfI.step {B : Nat} {bs : List Nat} {w w' : World} {S : List Sst} {i b : Nat} {st : Sst} (h : OfI B bs w S) (hb : bs[i]? = some b) (hs : S[i]? = some st) (k : Fr w w' [some b]) (hL : LstIs w' B b (st.next.es.drop st.next.used)) : OfI B bs w' (S.set i st.next) := by
  obtain ⟨h1, h2, h3⟩ := h
  refine ⟨by simpa using h1, h2, fun j c t hj ht => ?_⟩
  by_cases hji : j = i
  · subst hji
    rw [hb] at hj
    cases hj
    rw [List.getElem?_set_self (List.getElem?_eq_some_iff.1 hs).1] at ht
    cases ht
    obtain ⟨q1, q2, q3, q4, _⟩ := h3 j b st hb hs
    exact ⟨q1, q2, q3, q4, hL⟩
  · rw [List.getElem?_set_ne (fun e => hji e.symm)] at ht
    obtain ⟨q1, q2, q3, q4, q5⟩ := h3 j c t hj ht
    have q6 := (h3 i b st hb hs).2.2.2.1
    refine ⟨q1, q2, q3, q4, q5.fr k (fun e => ?_) q6⟩
    subst e
    have i1 := (List.getElem?_eq_some_iff.1 hj).1
    have i2 := (List.getElem?_eq_some_iff.1 hb).1
    have e1 := (List.getElem?_eq_some_iff.1 hj).2
    have e2 := (List.getElem?_eq_some_iff.1 hb).2
    exact hji ((List.getElem_inj h2).1 (e1.trans e2.symm))

theorem ofLaw (B : Nat) (bs : List Nat) : FeedLaw B ofT (bs.map ofV) (OfI B bs) where
  tok := ofTok
  len := fun h => by rw [h.1, List.length_map]
  keep := fun h k => ⟨h.1, h.2.1, fun i b st hb hs => by
    obtain ⟨q1, q2, q3, q4, q5⟩ := h.2.2 i b st hb hs
    exact ⟨q1, q2, q3, q4, q5.kp k (by decide)⟩⟩
  mute := fun {w S i st} h hs hm => by
    exfalso
    have hi := (List.getElem?_eq_some_iff.1 hs).1
    rw [h.1] at hi
    have := (h.2.2 i _ st (List.getElem?_eq_getElem hi) hs).1
    rw [hm] at this
    cases this
  live := fun {w S i st} h hs hm hu => by
    have hi := (List.getElem?_eq_some_iff.1 hs).1
    rw [h.1] at hi
    obtain ⟨b, hb⟩ : ∃ b, bs[i]? = some b := ⟨_, List.getElem?_eq_getElem hi⟩
    obtain ⟨q1, q2, q3, q4, q5⟩ := h.2.2 i b st hb hs
    refine ⟨52, b, ofV b, by rw [List.getElem?_map, hb]; rfl, .inl rfl, fun args W => by kernel_rfl, ?_⟩
    cases ho : st.es[st.used]? with
    | none =>
      have hd : st.es.drop st.used = [] := List.drop_eq_nil_of_le (List.getElem?_eq_none_iff.1 ho)
      have ha : st.ans = (zeroE, false, 0) := by unfold Sst.ans; rw [ho]; simp [q2]
      rw [hd] at q5
      refine (of_end q5).mono ?_
      rintro e w' ⟨rfl, hbl⟩
      refine ⟨by rw [ha], h.step hb hs (Fr.of_below hbl _) ?_, Kp.of_below hbl⟩
      have hd2 : st.next.es.drop st.next.used = [] := List.drop_eq_nil_of_le (by have := List.getElem?_eq_none_iff.1 ho; show st.es.length ≤ st.used + 1; omega)
      rw [hd2]
      exact q5.kp (Kp.of_below (B := B) (T := []) hbl) (by simp)
    | some x =>
      have hl := (List.getElem?_eq_some_iff.1 ho).1
      have hd : st.es.drop st.used = x :: st.es.drop (st.used + 1) := by
        rw [List.drop_eq_getElem_cons hl]
        have := (List.getElem?_eq_some_iff.1 ho).2
        rw [this]
      have ha : st.ans = (x, true, 0) := by unfold Sst.ans; rw [ho]
      rw [hd] at q5
      refine (of_more q5 q4 (by simp; omega)).mono ?_
      rintro e w' ⟨rfl, hL, hk⟩
      refine ⟨by rw [ha], h.step hb hs hk hL, ?_⟩
      refine ⟨hk.1, hk.2.1, hk.2.2.1, hk.2.2.2.1, fun g o ho' hx => (hk.2.2.2.2 g (Array.getElem?_eq_some_iff.1 ho').1 ?_).trans ho'⟩
      simp only [List.mem_singleton, Option.some.injEq]
      rintro rfl
      obtain ⟨p, c, h1, _⟩ := q5
      rw [h1] at ho'
      cases ho'
      rcases hx with hx | hx
      · omega
      · exact hx _ rfl (by unfold ofT; simp)

set_option maxRecDepth 100000 in
set_option maxHeartbeats 1000000 in
theorem of_calls (p : Option Addr) (n c : Nat) (w : World) : Calls Try.prog 41 #[.slice p n c] w fun e w' => e = .returned (.agg #[ofV w.heap.size]) ∧ Below w.heap.size w w' ∧ w'.heap[w.heap.size]? = some (.cells #[.slice p n c] 25 (0, 0)) := by
  have hbu : ∀ (W : World) (b : Nat), (Instr.build 41 #[(0, .func (.func 52) #[] #[.pointer (some ⟨b, 0, none⟩)])]).run Try.prog W = .ok (.agg #[.func (.func 52) #[] #[.pointer (some ⟨b, 0, none⟩)]]) W := fun W b => run_build W _ _ _ (by kernel_rfl)
  go_enter Try.func41, Try.ntmps41
  go_wp2
  refine bodyPost_ret (v := .agg #[.func (.func 52) #[] #[.pointer (some ⟨w.heap.size, 0, none⟩)]]) ?_ rfl ⟨rfl, ((Below.refl _ w).alloc (Nat.le_refl _) _).alloc (by simp) _, ?_⟩
  · rw [results_cell1 rfl]
    go_simp
  · exact (Below.heap_alloc _ _ _ (by simp)).trans (World.alloc_heap_new w _)
end Go.Proofs.Ytahdaccmokjgpaa

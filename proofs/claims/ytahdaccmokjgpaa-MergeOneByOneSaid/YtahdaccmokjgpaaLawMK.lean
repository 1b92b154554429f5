/-
  PLAIN, and memory: what the walks of the laws on lists that were dealt need.
-/
import Derived.Test.YtahdaccmokjgpaaLawLH
namespace Go.Proofs.Ytahdaccmokjgpaa
open Go.RowKit ArgK
set_option linter.unusedVariables false

theorem freshF_len : ∀ (l out : List Ent), out.length ≤ 60 → (freshF out l).length ≤ 60
  | [], out, h => h
  | x :: l, out, h => by
    rw [freshF]
    split
    · split
      · exact freshF_len l out h
      · exact freshF_len l _ (by simp; omega)
    · exact h

theorem freshF_sub : ∀ (l out : List Ent) (e : Ent), e ∈ freshF out l → e ∈ out ∨ e ∈ l
  | [], out, e, h => .inl h
  | x :: l, out, e, h => by
    rw [freshF] at h
    split at h
    · split at h
      · rcases freshF_sub l out e h with k | k
        · exact .inl k
        · exact .inr (List.mem_cons_of_mem _ k)
      · rcases freshF_sub l _ e h with k | k
        · rcases List.mem_append.1 k with k | k
          · exact .inl k
          · simp at k
            subst k
            exact .inr (List.mem_cons_self ..)
        · exact .inr (List.mem_cons_of_mem _ k)
    · exact .inl h

theorem swf_new {lists : List (List Ent)} (h : ∀ L ∈ lists, ∀ e ∈ L, (Lit.int .i64 e.s).wf = true) : SWf (Mst.new lists).S := by
  intro t ht e he
  unfold Mst.new at ht
  simp only [List.mem_map] at ht
  obtain ⟨s, ⟨L, hL, rfl⟩, rfl⟩ := ht
  exact h L hL e he

theorem Dealt.mem {lists : List (List Ent)} {all : List Ent} (h : Dealt lists all) {L : List Ent} (hL : L ∈ lists) {e : Ent} (he : e ∈ L) : e ∈ all := h.2.1.mem_iff.1 (List.mem_flatten.2 ⟨L, hL, he⟩)

theorem Dealt.short {lists : List (List Ent)} {all : List Ent} (h : Dealt lists all) {L : List Ent} (hL : L ∈ lists) : L.length ≤ all.length := by
  obtain ⟨i, hi⟩ := List.getElem?_of_mem hL
  exact h.len hi

theorem el_own {W : World} {base n : Nat} {p : Option Addr} {c : Nat} {L : List Ent} (h : W.ownsRow base 24 5 (.slice p n c) n (encE L)) (hn : L.length = n) : EL W W.heap.size p L := by
  obtain ⟨q, d, e, _, _, hr⟩ := own_rd h
  simp only [Value.slice.injEq] at e
  obtain ⟨rfl, _, rfl⟩ := e
  by_cases h0 : 0 < n
  · obtain ⟨g, rfl, _, hg, hc, _⟩ := hr h0
    exact el_block hg (fun j hj => hc j (by omega))
  · intro i x hx
    have := (List.getElem?_eq_some_iff.1 hx).1
    omega

theorem lastG_length (all : List Ent) (bottom : Bool) : ∀ (l acc : List Ent), (lastG all bottom acc l).length ≤ acc.length + l.length
  | [], acc => by simp [lastG]
  | x :: l, acc => by
    rw [lastG]
    split
    · have h1 := lastG_length all bottom l (putL acc x)
      have h2 := putL_length acc x
      simp
      omega
    · have h1 := lastG_length all bottom l acc
      simp
      omega

/-- Lists that were dealt are lists that Merge reads. -/
theorem DL.lls {B : Nat} {p : Option Addr} {n c : Nat} {lists : List (List Ent)} {W : World} (h : DL B (.slice p n c) lists W) : n = lists.length ∧ LLs W W.heap.size p lists := by
  obtain ⟨vs, h1, h2⟩ := h
  obtain ⟨q, d, e, _, _, hr⟩ := own_rd h1
  simp only [Value.slice.injEq] at e
  obtain ⟨rfl, hn, rfl⟩ := e
  refine ⟨hn, fun i L hL => ?_⟩
  have hi := (List.getElem?_eq_some_iff.1 hL).1
  obtain ⟨g, rfl, _, hg, hc, _⟩ := hr (by omega)
  obtain ⟨v, hv⟩ : ∃ v, vs[i]? = some v := ⟨_, List.getElem?_eq_getElem (by have := DL.vs_length h1; omega)⟩
  have ho := h2 i v L hv hL
  obtain ⟨q2, d2, rfl, hld, _⟩ := own_rd ho
  refine ⟨⟨g, 0, none⟩, q2, d2, rfl, hg, ?_, hld, el_own ho rfl⟩
  rw [show (⟨g, 0, none⟩ : Addr).add i = ⟨g, i, none⟩ by unfold Addr.add; split <;> simp_all, hc i (by omega)]
  exact hv

/-- Merge, of lists that were dealt. -/
theorem merge_dealt {W : World} {B : Nat} {p : Option Addr} {n c : Nat} {lists : List (List Ent)} {all : List Ent} (bottom : Bool) (hD : DL B (.slice p n c) lists W) (hA : Dealt lists all) (hd : Dist all) (hl : all.length ≤ 60) (hwf : ∀ e ∈ all, (Lit.int .i64 e.s).wf = true) :
    Calls Try.prog 22 #[.slice p n c, .bool bottom] W (fun e w' => ∃ q c, e = .returned (.tuple #[.slice q (lastG all bottom [] all).length c, .int .i64 0]) ∧ Below W.heap.size W w' ∧ w'.ownsRow W.heap.size 24 5 (.slice q (lastG all bottom [] all).length c) (lastG all bottom [] all).length (encE (lastG all bottom [] all))) := by
  obtain ⟨hn, hL⟩ := hD.lls
  have hm := merge_last bottom hd hA
  have hlen : (lastG all bottom [] all).length ≤ 2199023255552 := by
    have := lastG_length all bottom all []
    simp at this
    omega
  refine (Merge_calls (n := n) (c := c) bottom hn.symm (by have := hA.2.2; omega) hL (fun L hL => by have := hA.short hL; omega) (by rw [hm]; exact hlen) (swf_new (fun L hL e he => hwf e (hA.mem hL he)))).mono (fun e w' h => ?_)
  have h2 := h.1 hA.1
  rw [hm] at h2
  obtain ⟨v, e1, hb, ho, _⟩ := h2
  have ho := ho rfl
  obtain ⟨q, c', rfl, _⟩ := own_rd ho
  exact ⟨q, c', e1, hb, ho⟩
end Go.Proofs.Ytahdaccmokjgpaa

/-
  WALK: the hit on top of a pile taken away.
-/
import Derived.Test.YtmfanldekjkbiaaDoorPutN
namespace Go.Proofs.YtmfanldekjkbiaaDoor
open Go.RowKit
set_option linter.unusedVariables false

/-- What drop leaves. -/
def DropPost (w : World) (pb mb : Nat) (v : Value) (L : List Hv) (e : Ending) (w' : World) : Prop :=
  e = .returned (.tuple #[]) ∧ ∃ v' L', PileIs w' pb mb v' L' ∧ HeapH L' ∧ L'.Perm (dropT L) ∧ Fr w w' [some pb, some mb, v.ownBlock] ∧ v'.ownBlock = v.ownBlock

/-- The head of the outer loop: element k may stand too high. -/
def DnRel (w : World) (pb mb g cap n : Nat) (L : List Hv) (f : Nat) (si : Value) (wr : World) : Prop :=
  ∃ (k : Nat) (Lk : List Hv), si = .int .i64 k ∧ PileIs wr pb mb (.slice (some ⟨g, 0, none⟩) n cap) Lk ∧ HeapDn Lk k ∧ Lk.length = n ∧ (k < n ∨ n = 0 ∧ k = 0) ∧ Lk.Perm L ∧ Fr w wr [some pb, some mb, some g] ∧ n - k + 1 ≤ f

/-- The head of the inner loop: x is the greatest of k and the children ahead of c. -/
def InRel (W : World) (k n : Nat) (Lk : List Hv) (f : Nat) (sx sc : Value) (wr : World) : Prop :=
  ∃ (x c : Nat), sx = .int .i64 x ∧ sc = .int .i64 c ∧ 2 * k + 1 ≤ c ∧ c ≤ 2 * k + 3 ∧ (x = k ∨ 2 * k + 1 ≤ x ∧ x < c ∧ x < n ∧ hless (hd Lk k) (hd Lk x)) ∧ (∀ j, 2 * k + 1 ≤ j → j < c → j < n → ¬ hless (hd Lk x) (hd Lk j)) ∧ Gr W wr ∧ 2 * k + 4 ≤ f + c

theorem inRel_next {W w' : World} {k n x c f : Nat} {Lk : List Hv} (h1 : 2 * k + 1 ≤ c) (h2 : c ≤ 2 * k + 2) (hcn : c < n) (hx : x = k ∨ 2 * k + 1 ≤ x ∧ x < c ∧ x < n ∧ hless (hd Lk k) (hd Lk x)) (hm : ∀ j, 2 * k + 1 ≤ j → j < c → j < n → ¬ hless (hd Lk x) (hd Lk j)) (hl : hless (hd Lk x) (hd Lk c)) (hg : Gr W w') (hf : 2 * k + 4 ≤ f + c) (hf0 : 0 < f) :
    InRel W k n Lk (f - 1) (.int .i64 c) (.int .i64 (c + 1 : Nat)) w' := by
  refine ⟨c, c + 1, rfl, rfl, by omega, by omega, .inr ⟨h1, by omega, hcn, ?_⟩, fun j j1 j2 j3 => ?_, hg, by omega⟩
  · rcases hx with rfl | ⟨_, _, _, h⟩
    · exact hl
    · exact hless_trans h hl
  · by_cases e : j = c
    · subst e; exact hless_irrefl _
    · exact nless_trans (hless_asymm hl) (hm j j1 (by omega) j3)

theorem inRel_keep {W w' : World} {k n x c f : Nat} {Lk : List Hv} (h1 : 2 * k + 1 ≤ c) (h2 : c ≤ 2 * k + 2) (hcn : c < n) (hx : x = k ∨ 2 * k + 1 ≤ x ∧ x < c ∧ x < n ∧ hless (hd Lk k) (hd Lk x)) (hm : ∀ j, 2 * k + 1 ≤ j → j < c → j < n → ¬ hless (hd Lk x) (hd Lk j)) (hl : ¬ hless (hd Lk x) (hd Lk c)) (hg : Gr W w') (hf : 2 * k + 4 ≤ f + c) (hf0 : 0 < f) :
    InRel W k n Lk (f - 1) (.int .i64 x) (.int .i64 (c + 1 : Nat)) w' := by
  refine ⟨x, c + 1, rfl, rfl, by omega, by omega, ?_, fun j j1 j2 j3 => ?_, hg, by omega⟩
  · rcases hx with rfl | ⟨a, b, c', h⟩
    · exact .inl rfl
    · exact .inr ⟨a, by omega, c', h⟩
  · by_cases e : j = c
    · subst e; exact hl
    · exact hm j j1 (by omega) j3

theorem kids {j k : Nat} (h0 : 0 < j) (h : (j - 1) / 2 = k) : j = 2 * k + 1 ∨ j = 2 * k + 2 := by omega

/-- Behind the inner loop: no child is greater. -/
theorem in_end {k n x c : Nat} {Lk : List Hv} (hc : 2 * k + 3 ≤ c ∨ n ≤ c) (hm : ∀ j, 2 * k + 1 ≤ j → j < c → j < n → ¬ hless (hd Lk x) (hd Lk j)) : ∀ j, 0 < j → j < n → (j - 1) / 2 = k → ¬ hless (hd Lk x) (hd Lk j) := by
  intro j h0 hj hp
  rcases kids h0 hp with e | e <;> exact hm j (by omega) (by omega) hj

theorem drop_end {w wr : World} {pb mb g cap n k : Nat} {L T Lk : List Hv} {v : Value} (hP : PileIs wr pb mb (.slice (some ⟨g, 0, none⟩) n cap) Lk) (hD : HeapDn Lk k) (hn : Lk.length = n) (hm : ∀ j, 0 < j → j < n → (j - 1) / 2 = k → ¬ hless (hd Lk k) (hd Lk j)) (hp : Lk.Perm T) (hT : T = dropT L) (hF : Fr w wr [some pb, some mb, some g]) (hv : v.ownBlock = some g) :
    DropPost w pb mb v L (.returned (.tuple #[])) wr :=
  ⟨rfl, _, Lk, hP, heapDn_stop hD (by rw [hn]; exact hm), by rw [← hT]; exact hp, by rw [hv]; exact hF, by rw [hv]; rfl⟩

theorem dnRel_swap {w w' : World} {pb mb g cap n k x f : Nat} {T Lk : List Hv} (hP : PileIs w' pb mb (.slice (some ⟨g, 0, none⟩) n cap) Lk) (hD : HeapDn Lk k) (hn : Lk.length = n) (hk : k < n) (hx : x < n) (hx1 : x = 2 * k + 1 ∨ x = 2 * k + 2) (hl : hless (hd Lk k) (hd Lk x))
    (hm : ∀ j, 0 < j → j < n → (j - 1) / 2 = k → ¬ hless (hd Lk x) (hd Lk j)) (hp : Lk.Perm T) (hF : Fr w w' [some pb, some mb, some g]) :
    DnRel w pb mb g cap n T (n - x + 1) (.int .i64 x) ((((((w'.setCell ⟨g, k * 3, none⟩ (.int .i64 (hd Lk x).d)).setCell ⟨g, k * 3 + 1, none⟩ (.int .i64 (hd Lk x).i)).setCell ⟨g, k * 3 + 2, none⟩ (.string (hd Lk x).c)).setCell
      ⟨g, x * 3, none⟩ (.int .i64 (hd Lk k).d)).setCell ⟨g, x * 3 + 1, none⟩ (.int .i64 (hd Lk k).i)).setCell ⟨g, x * 3 + 2, none⟩ (.string (hd Lk k).c)).drew := by
  have hgO : some g ∈ [some pb, some mb, some g] ∨ w.heap.size ≤ g := .inl (by simp)
  refine ⟨x, swp Lk k x, rfl, (hP.swap hn (by omega) (by omega)).gr ((Gr.refl _).drew), ?_, by rw [swp_length]; exact hn, .inl hx, (swp_perm (by omega) (by omega)).trans hp, ?_, Nat.le_refl _⟩
  · exact heapDn_step hD (by omega) (by omega) (by omega) hl (fun j j0 hj hpj => hm j j0 (by omega) hpj)
  · exact ((((((hF.set1 hgO _ _).set1 hgO _ _).set1 hgO _ _).set1 hgO _ _).set1 hgO _ _).set1 hgO _ _).drew

/-- The last hit laid over the one on top, the list cut. -/
theorem drop_mid {w w1 : World} {pb mb g cap n : Nat} {L : List Hv} (hP : PileIs w pb mb (.slice (some ⟨g, 0, none⟩) L.length cap) L) (hn : L.length = n + 1) (hHas : HasIs w1 mb (dropT L)) (hgr : w.drew.grownBy w1 (some mb)) :
    PileIs ((((w1.setCell ⟨g, 0, none⟩ (.int .i64 (hd L n).d)).setCell ⟨g, 1, none⟩ (.int .i64 (hd L n).i)).setCell ⟨g, 2, none⟩ (.string (hd L n).c)).drew.setCell ⟨pb, 0, none⟩ (.slice (some ⟨g, 0, none⟩) n cap)) pb mb (.slice (some ⟨g, 0, none⟩) n cap) (dropT L) ∧
    Fr w ((((w1.setCell ⟨g, 0, none⟩ (.int .i64 (hd L n).d)).setCell ⟨g, 1, none⟩ (.int .i64 (hd L n).i)).setCell ⟨g, 2, none⟩ (.string (hd L n).c)).drew.setCell ⟨pb, 0, none⟩ (.slice (some ⟨g, 0, none⟩) n cap)) [some pb, some mb, some g] := by
  obtain ⟨a1, a2, a3⟩ := hP.apart
  have b1 : ∀ (W : World) k u, (W.setCell ⟨g, k, none⟩ u).heap[pb]? = W.heap[pb]? := fun W k u => Below.heap_setCell _ _ _ _ (fun e => a2 (by rw [e]; rfl))
  have b2 : ∀ (W : World) k u, (W.setCell ⟨g, k, none⟩ u).heap[mb]? = W.heap[mb]? := fun W k u => Below.heap_setCell _ _ _ _ (fun e => a3 (by rw [e]; rfl))
  have hrow : w1.ownsRow 0 36 3 (.slice (some ⟨g, 0, none⟩) L.length cap) L.length (encH L) := own_grown (w := w.drew) hP.row hgr (fun k e => fun e' => a3 (by rw [e, e']))
  have r1 := own_setH hrow 0 (hd L n)
  have r2 := own_takeH r1 (k := n) (by omega)
  have hbox : w1.heap[pb]? = some (.cells #[.slice (some ⟨g, 0, none⟩) L.length cap, .func (.func 55) #[] #[], .map (some mb)] 99 (0, 0)) := (hgr.block pb hP.lt (fun e => a1 (Option.some.inj e).symm)).trans hP.box
  have hdl : (dropT L).length = n := by rw [dropT_length]; omega
  have hdp := dropT_perm (L := L) (by omega)
  have hnd := List.nodup_cons.1 (hdp.nodup_iff.2 hP.nodup)
  refine ⟨⟨?_, ?_, ?_, hnd.2, fun x hx => hP.good x (hdp.mem_iff.1 (List.mem_cons_of_mem _ hx))⟩, ?_⟩
  · have : (((((w1.setCell ⟨g, 0, none⟩ (.int .i64 (hd L n).d)).setCell ⟨g, 1, none⟩ (.int .i64 (hd L n).i)).setCell ⟨g, 2, none⟩ (.string (hd L n).c)).drew)).heap[pb]? = some (.cells #[.slice (some ⟨g, 0, none⟩) L.length cap, .func (.func 55) #[] #[], .map (some mb)] 99 (0, 0)) := by
      show ((((w1.setCell _ _).setCell _ _).setCell _ _)).heap[pb]? = _
      rw [b1, b1, b1]; exact hbox
    generalize ((((w1.setCell ⟨g, 0, none⟩ (.int .i64 (hd L n).d)).setCell ⟨g, 1, none⟩ (.int .i64 (hd L n).i)).setCell ⟨g, 2, none⟩ (.string (hd L n).c)).drew) = W at this ⊢
    simp [World.setCell, Array.getElem?_modify, this]
  · rw [hdl]
    have e : dropT L = (L.set 0 (hd L n)).take n := by unfold dropT; rw [hn]; rfl
    rw [e]
    have hne : (Value.slice (some ⟨g, 0, none⟩) n cap).ownBlock ≠ some (⟨pb, 0, none⟩ : Addr).block := fun e => a2 e
    simp only [Nat.zero_mul, Nat.zero_add] at r2
    exact own_setCell (p := ⟨pb, 0, none⟩) (show World.ownsRow (((w1.setCell ⟨g, 0, none⟩ (.int .i64 (hd L n).d)).setCell ⟨g, 1, none⟩ (.int .i64 (hd L n).i)).setCell ⟨g, 2, none⟩ (.string (hd L n).c)).drew _ _ _ _ _ _ from r2) hne _
  · refine hHas.of ?_
    refine (Below.heap_setCell _ _ _ mb (fun e => a1 e)).trans ?_
    show ((((w1.setCell _ _).setCell _ _).setCell _ _)).heap[mb]? = _
    rw [b2, b2, b2]
  · have hgO : some g ∈ [some pb, some mb, some g] ∨ w.heap.size ≤ g := .inl (by simp)
    have f0 : Fr w w1 [some pb, some mb, some g] := (((Fr.refl w _).drew).grown hgr (fun k e _ => by cases e; simp))
    exact ((((f0.set1 hgO 0 _).set1 hgO 1 _).set1 hgO 2 _).drew).setCell (p := ⟨pb, 0, none⟩) (fun _ => by simp) _
end Go.Proofs.YtmfanldekjkbiaaDoor

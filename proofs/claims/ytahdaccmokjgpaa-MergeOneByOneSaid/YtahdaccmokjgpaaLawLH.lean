/-
  WALK: what the law begins with (its own begun).
-/
import Derived.Test.YtahdaccmokjgpaaLawLG
namespace Go.Proofs.Ytahdaccmokjgpaa
open Go.RowKit ArgK
set_option linter.unusedVariables false

theorem el_block {W : World} {B g : Nat} {K : List Ent} (hg : g < B) (h : ∀ j, j < K.length * 5 → W.cell? ⟨g, j, none⟩ = (encE K)[j]?) : EL W B (some ⟨g, 0, none⟩) K := by
  intro i x hx
  have hi := (List.getElem?_eq_some_iff.1 hx).1
  refine ⟨⟨g, 0, none⟩, rfl, hg, Five.of (fun k hk => ?_)⟩
  rw [show (⟨g, 0, none⟩ : Addr).add (i * 5 + k) = ⟨g, i * 5 + k, none⟩ by unfold Addr.add; split <;> simp_all, h (i * 5 + k) (by omega)]
  exact encE_get K i x hx k hk

theorem lls_two {W : World} {B g g1 g2 : Nat} {K L : List Ent} (hg : g < B) (hg1 : g1 < B) (hg2 : g2 < B) (c0 : W.cell? ⟨g, 0, none⟩ = some (.slice (some ⟨g1, 0, none⟩) K.length K.length)) (c1 : W.cell? ⟨g, 1, none⟩ = some (.slice (some ⟨g2, 0, none⟩) L.length L.length))
    (h1 : ∀ j, j < K.length * 5 → W.cell? ⟨g1, j, none⟩ = (encE K)[j]?) (h2 : ∀ j, j < L.length * 5 → W.cell? ⟨g2, j, none⟩ = (encE L)[j]?) : LLs W B (some ⟨g, 0, none⟩) [K, L] := by
  intro i M hM
  match i, hM with
  | 0, hM =>
    simp at hM
    subst hM
    exact ⟨⟨g, 0, none⟩, some ⟨g1, 0, none⟩, K.length, rfl, hg, c0, Nat.le_refl _, el_block hg1 h1⟩
  | 1, hM =>
    simp at hM
    subst hM
    exact ⟨⟨g, 0, none⟩, some ⟨g2, 0, none⟩, L.length, rfl, hg, c1, Nat.le_refl _, el_block hg2 h2⟩
  | i + 2, hM => simp at hM

theorem lls_made {W : World} {g : Nat} (hg : W.heap.size = g) {K L : List Ent} {cK cL : Array Value} {t1 t2 : TypeId} (hK : cK = (encE K).toArray) (hL : cL = (encE L).toArray) {nK nL : Nat} (hnK : nK = K.length) (hnL : nL = L.length) :
    LLs (((W.alloc (.cells cK t1)).alloc (.cells cL t1)).alloc (.cells #[.slice (some ⟨g, 0, none⟩) nK nK, .slice (some ⟨g + 1, 0, none⟩) nL nL] t2)) (((W.alloc (.cells cK t1)).alloc (.cells cL t1)).alloc (.cells #[.slice (some ⟨g, 0, none⟩) nK nK, .slice (some ⟨g + 1, 0, none⟩) nL nL] t2)).heap.size (some ⟨g + 1 + 1, 0, none⟩) [K, L] := by
  subst hnK hnL
  have s1 : (W.alloc (.cells cK t1)).heap.size = g + 1 := by simp [hg]
  have s2 : ((W.alloc (.cells cK t1)).alloc (.cells cL t1)).heap.size = g + 1 + 1 := by simp [hg]
  obtain ⟨W1, h1⟩ : ∃ W1, W.alloc (.cells cK t1) = W1 := ⟨_, rfl⟩
  have e1 : W1.heap[g]? = some (.cells cK t1) := by rw [← h1, ← hg]; exact World.alloc_heap_new W _
  rw [h1] at s1 s2 ⊢
  obtain ⟨W2, h2⟩ : ∃ W2, W1.alloc (.cells cL t1) = W2 := ⟨_, rfl⟩
  have e2 : W2.heap[g + 1]? = some (.cells cL t1) := by rw [← h2, ← s1]; exact World.alloc_heap_new W1 _
  have e1' : W2.heap[g]? = some (.cells cK t1) := by rw [← h2, Below.heap_alloc _ _ _ (by omega)]; exact e1
  rw [h2] at s2 ⊢
  obtain ⟨W3, h3⟩ : ∃ W3, W2.alloc (.cells #[.slice (some ⟨g, 0, none⟩) K.length K.length, .slice (some ⟨g + 1, 0, none⟩) L.length L.length] t2) = W3 := ⟨_, rfl⟩
  have e3 : W3.heap[g + 1 + 1]? = some (.cells #[.slice (some ⟨g, 0, none⟩) K.length K.length, .slice (some ⟨g + 1, 0, none⟩) L.length L.length] t2) := by rw [← h3, ← s2]; exact World.alloc_heap_new W2 _
  have e1'' : W3.heap[g]? = some (.cells cK t1) := by rw [← h3, Below.heap_alloc _ _ _ (by omega)]; exact e1'
  have e2'' : W3.heap[g + 1]? = some (.cells cL t1) := by rw [← h3, Below.heap_alloc _ _ _ (by omega)]; exact e2
  rw [h3]
  have hl := (Array.getElem?_eq_some_iff.1 e3).1
  refine lls_two (g1 := g) (g2 := g + 1) hl (by omega) (by omega) ?_ ?_ (fun j _ => ?_) (fun j _ => ?_)
  · rw [cell_of_row _ _ 0 _ _ _ e3]; rfl
  · rw [cell_of_row _ _ 1 _ _ _ e3]; rfl
  · rw [cell_of_row _ _ j _ _ _ e1'', hK]; simp
  · rw [cell_of_row _ _ j _ _ _ e2'', hL]; simp

theorem box5 {W : World} {b : Nat} {v0 v1 v2 v3 v4 : Value} {t : TypeId} {fr : Nat × Nat} (h : W.heap[b]? = some (.cells #[v0, v1, v2, v3, v4] t fr)) : W.cell? ⟨b, 0, none⟩ = some v0 ∧ W.cell? ⟨b, 1, none⟩ = some v1 ∧ W.cell? ⟨b, 2, none⟩ = some v2 ∧ W.cell? ⟨b, 3, none⟩ = some v3 ∧ W.cell? ⟨b, 4, none⟩ = some v4 :=
  ⟨by rw [cell_of_row _ _ 0 _ _ _ h]; rfl, by rw [cell_of_row _ _ 1 _ _ _ h]; rfl, by rw [cell_of_row _ _ 2 _ _ _ h]; rfl, by rw [cell_of_row _ _ 3 _ _ _ h]; rfl, by rw [cell_of_row _ _ 4 _ _ _ h]; rfl⟩

theorem esl_made {W : World} {K : List Ent} {cK : Array Value} {t1 : TypeId} {n c : Nat} (hK : cK = (encE K).toArray) (hn : n = K.length) : ESl (W.alloc (.cells cK t1)) (.slice (some ⟨W.heap.size, 0, none⟩) n c) K := by
  subst hn
  have e := World.alloc_heap_new W (.cells cK t1)
  have hl := (Array.getElem?_eq_some_iff.1 e).1
  exact (el_block (B := (W.alloc (.cells cK t1)).heap.size) hl (fun j _ => by rw [cell_of_row _ _ j _ _ _ e, hK]; simp)).esl c

theorem swf_two : SWf (Mst.new [[bA, bB], [bD]]).S := by
  unfold SWf
  decide

theorem swf_two' : SWf (Mst.new [[bD], [bA, bB]]).S := by
  unfold SWf
  decide

set_option maxRecDepth 100000 in
set_option maxHeartbeats 4000000 in
theorem begun_calls (w : World) : Calls Try.prog 25 #[] w fun e w' => e = .returned (.bool true) ∧ Below w.heap.size w w' := by
  have HM1 : Hid (∀ (W : World) (p : Option Addr), LLs W W.heap.size p [[bA, bB], [bD]] → Calls Try.prog 22 #[.slice p 2 2, .bool false] W (fun e w' => ∃ q c, e = .returned (.tuple #[.slice q 2 c, .int .i64 0]) ∧ Below W.heap.size W w' ∧ w'.ownsRow W.heap.size 24 5 (.slice q 2 c) 2 (encE [bD, bB]))) := Lib.hid (fun W p hL =>
    (Merge_calls (n := 2) (c := 2) false rfl (by decide) hL (by decide) (by rw [begun_one]; decide) swf_two).mono (fun e w' h => by
      have h2 := h.1 (rises_two (by decide) (by decide))
      rw [begun_one] at h2
      obtain ⟨v, e1, hb, ho, _⟩ := h2
      have ho := ho rfl
      obtain ⟨q, c, rfl, _⟩ := own_rd ho
      exact ⟨q, c, e1, hb, ho⟩))
  have HM2 : Hid (∀ (W : World) (p : Option Addr), LLs W W.heap.size p [[bD], [bA, bB]] → Calls Try.prog 22 #[.slice p 2 2, .bool true] W (fun e w' => ∃ q c, e = .returned (.tuple #[.slice q 1 c, .int .i64 0]) ∧ Below W.heap.size W w' ∧ w'.ownsRow W.heap.size 24 5 (.slice q 1 c) 1 (encE [bB]))) := Lib.hid (fun W p hL =>
    (Merge_calls (n := 2) (c := 2) true rfl (by decide) hL (by decide) (by rw [begun_two]; decide) swf_two').mono (fun e w' h => by
      have h2 := h.1 (rises_two (by decide) (by decide))
      rw [begun_two] at h2
      obtain ⟨v, e1, hb, ho, _⟩ := h2
      have ho := ho rfl
      obtain ⟨q, c, rfl, _⟩ := own_rd ho
      exact ⟨q, c, e1, hb, ho⟩))
  obtain ⟨W1, h1⟩ : ∃ W1, w.alloc (.cells #[.int .i64 1, .string ⟨#[97]⟩, .int .i64 1, .int .i64 1, .bool false] 24) = W1 := ⟨_, rfl⟩
  obtain ⟨W2, h2⟩ : ∃ W2, W1.alloc (.cells #[.int .i64 1, .string ⟨#[97]⟩, .int .i64 1, .int .i64 5, .bool true] 24) = W2 := ⟨_, rfl⟩
  obtain ⟨W3, h3⟩ : ∃ W3, W2.alloc (.cells #[.int .i64 2, .string ⟨#[97]⟩, .int .i64 1, .int .i64 2, .bool false] 24) = W3 := ⟨_, rfl⟩
  have s1 : W1.heap.size = w.heap.size + 1 := by rw [← h1]; simp
  have s2 : W2.heap.size = w.heap.size + 1 + 1 := by rw [← h2]; simp; omega
  have s3 : W3.heap.size = w.heap.size + 1 + 1 + 1 := by rw [← h3]; simp; omega
  have a1 : W3.heap[w.heap.size]? = some (.cells #[.int .i64 1, .string ⟨#[97]⟩, .int .i64 1, .int .i64 1, .bool false] 24) := by
    rw [← h3, Below.heap_alloc _ _ _ (by omega), ← h2, Below.heap_alloc _ _ _ (by omega), ← h1]; exact World.alloc_heap_new w _
  have a2 : W3.heap[w.heap.size + 1]? = some (.cells #[.int .i64 1, .string ⟨#[97]⟩, .int .i64 1, .int .i64 5, .bool true] 24) := by
    rw [← h3, Below.heap_alloc _ _ _ (by omega), ← h2, ← s1]; exact World.alloc_heap_new W1 _
  have a3 : W3.heap[w.heap.size + 1 + 1]? = some (.cells #[.int .i64 2, .string ⟨#[97]⟩, .int .i64 1, .int .i64 2, .bool false] 24) := by
    rw [← h3, ← s2]; exact World.alloc_heap_new W2 _
  have HA : Hid (∀ W', Below W3.heap.size W3 W' → W'.heap[w.heap.size]? = some (.cells #[.int .i64 1, .string ⟨#[97]⟩, .int .i64 1, .int .i64 1, .bool false] 24) ∧ W'.heap[w.heap.size + 1]? = some (.cells #[.int .i64 1, .string ⟨#[97]⟩, .int .i64 1, .int .i64 5, .bool true] 24) ∧ W'.heap[w.heap.size + 1 + 1]? = some (.cells #[.int .i64 2, .string ⟨#[97]⟩, .int .i64 1, .int .i64 2, .bool false] 24)) :=
    Lib.hid (fun W' hW => ⟨(hW.block _ (by omega)).trans a1, (hW.block _ (by omega)).trans a2, (hW.block _ (by omega)).trans a3⟩)
  have HBL : Hid (Below w.heap.size w W3) := Lib.hid (by rw [← h3, ← h2, ← h1]; exact (((Below.refl _ w).alloc (Nat.le_refl _) _).alloc (by simp) _).alloc (by simp; omega) _)
  have H3 : Hid (((w.alloc (.cells #[.int .i64 1, .string ⟨#[97]⟩, .int .i64 1, .int .i64 1, .bool false] 24)).alloc (.cells #[.int .i64 1, .string ⟨#[97]⟩, .int .i64 1, .int .i64 5, .bool true] 24)).alloc (.cells #[.int .i64 2, .string ⟨#[97]⟩, .int .i64 1, .int .i64 2, .bool false] 24) = W3) := Lib.hid (by rw [h1, h2, h3])
  have HS := Lib.hid s3
  clear h1 h2 h3 s1 s2 s3 a1 a2 a3
  go_enter Try.func25, Try.ntmps25
  go_wp2_with fail
  rw [H3.out]
  refine (HM1.out _ _ (lls_made HS.out (K := [bA, bB]) (L := [bD]) rfl rfl rfl rfl)).mono ?_
  rintro e y1 ⟨q1, c1, rfl, hb1, ho1⟩
  have B1 : Hid (Below W3.heap.size W3 y1) := Lib.hid ((((Below.refl _ W3).alloc (Nat.le_refl _) _).alloc (by simp) _).alloc (by simp; omega) _ |>.trans (hb1.mono (by simp; omega)))
  have HO1 := Lib.hid ho1
  obtain ⟨f1, f2, f3⟩ := HA.out y1 B1.out
  obtain ⟨k0, k1, k2, k3, k4⟩ := box5 f1
  obtain ⟨l0, l1, l2, l3, l4⟩ := box5 f2
  obtain ⟨m0, m1, m2, m3, m4⟩ := box5 f3
  clear hb1 ho1 f1 f2 f3
  have z0 : w.heap.size < y1.heap.size := cell_lt k0
  have z1 : w.heap.size + 1 < y1.heap.size := cell_lt l0
  have z2 : w.heap.size + 1 + 1 < y1.heap.size := cell_lt m0
  go_wp2_with fail
  refine (HM2.out _ _ (lls_made rfl (K := [bD]) (L := [bA, bB]) rfl rfl rfl rfl)).mono ?_
  rintro e y2 ⟨q2, c2, rfl, hb2, ho2⟩
  have Bm : Hid (Below y1.heap.size y1 y2) := Lib.hid ((((Below.refl _ y1).alloc (Nat.le_refl _) _).alloc (by simp) _).alloc (by simp; omega) _ |>.trans (hb2.mono (by simp; omega)))
  have B2 : Hid (Below W3.heap.size W3 y2) := Lib.hid (B1.out.trans (Bm.out.mono B1.out.size))
  have E1 := Lib.hid (ESl.of_own (own_belowAll HO1.out Bm.out))
  have E2 := Lib.hid (ESl.of_own ho2)
  obtain ⟨f1, f2, f3⟩ := HA.out y2 B2.out
  clear k0 k1 k2 k3 k4 l0 l1 l2 l3 l4 m0 m1 m2 m3 m4 hb2 ho2
  obtain ⟨k0, k1, k2, k3, k4⟩ := box5 f1
  obtain ⟨l0, l1, l2, l3, l4⟩ := box5 f2
  obtain ⟨m0, m1, m2, m3, m4⟩ := box5 f3
  clear f1 f2 f3 z0 z1 z2
  have z0 : w.heap.size < y2.heap.size := cell_lt k0
  have z1 : w.heap.size + 1 < y2.heap.size := cell_lt l0
  have z2 : w.heap.size + 1 + 1 < y2.heap.size := cell_lt m0
  go_wp2_with fail
  refine (sameE_true _ _ [bD, bB] (by decide) _ (E1.out.below (Below.alloc (Below.refl _ y2) (Nat.le_refl _) _)) (esl_made rfl rfl)).mono ?_
  rintro e y3 ⟨rfl, hb3⟩
  have B3 : Hid (Below y2.heap.size y2 y3) := Lib.hid (((Below.refl _ y2).alloc (Nat.le_refl _) _).trans (hb3.mono (by simp)))
  have B4 : Hid (Below W3.heap.size W3 y3) := Lib.hid (B2.out.trans (B3.out.mono B2.out.size))
  have E3 := Lib.hid (E2.out.below B3.out)
  obtain ⟨f1, f2, f3⟩ := HA.out y3 B4.out
  clear k0 k1 k2 k3 k4 l0 l1 l2 l3 l4 m0 m1 m2 m3 m4 hb3
  obtain ⟨m0, m1, m2, m3, m4⟩ := box5 f3
  clear f1 f2 f3 z0 z1 z2
  have z2 : w.heap.size + 1 + 1 < y3.heap.size := cell_lt m0
  go_wp2_with fail
  refine (sameE_true _ _ [bB] (by decide) _ (E3.out.below (Below.alloc (Below.refl _ y3) (Nat.le_refl _) _)) (esl_made rfl rfl)).mono ?_
  rintro e y4 ⟨rfl, hb4⟩
  have B5 : Hid (Below w.heap.size w y4) := Lib.hid (HBL.out.trans ((B4.out.trans ((((Below.refl _ y3).alloc (Nat.le_refl _) _).trans (hb4.mono (by simp))).mono B4.out.size)).mono HBL.out.size))
  clear hb4 m0 m1 m2 m3 m4
  go_wp2
  go_ret
  exact ⟨rfl, B5.out⟩
end Go.Proofs.Ytahdaccmokjgpaa

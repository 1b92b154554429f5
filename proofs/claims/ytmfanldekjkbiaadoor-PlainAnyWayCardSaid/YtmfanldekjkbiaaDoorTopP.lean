/-
  TOPS AND BALLS in memory, and plain laws on the first k of a set.
-/
import Derived.Test.YtmfanldekjkbiaaDoorDropW
namespace Go.Proofs.YtmfanldekjkbiaaDoor
open Go.RowKit
set_option linter.unusedVariables false

theorem ris_snoc {S : List Hv} {x : Hv} (h : Ris (S ++ [x])) : Ris S ∧ ∀ y ∈ S, hless y x := by
  have := List.pairwise_append.1 h
  exact ⟨this.1, fun y hy => this.2.2 y hy x (by simp)⟩

/-- The top of a heap is the last of the hits in order. -/
theorem top_last {M S : List Hv} {x : Hv} (hH : HeapH M) (hp : M.Perm (S ++ [x])) (hS : Ris (S ++ [x])) : hd M 0 = x := by
  have hl := hp.length_eq
  have h0 : 0 < M.length := by rw [hl]; simp
  have hm : hd M 0 ∈ M := List.mem_of_getElem? (hd_get h0)
  rcases List.mem_append.1 ((hp.mem_iff).1 hm) with h | h
  · exact absurd ((ris_snoc hS).2 _ h) (heap_top_mem hH ((hp.mem_iff).2 (by simp)))
  · exact List.mem_singleton.1 h

theorem list_snoc {S : List Hv} {k : Nat} (h : S.length = k + 1) : S = S.take k ++ [hd S k] := by
  have e : S.take (k + 1) = S := List.take_of_length_le (by omega)
  have e2 : S.take (k + 1) = S.take k ++ [hd S k] := by rw [List.take_add_one, hd_get (by omega : k < S.length)]; rfl
  rw [e] at e2
  exact e2

/-- The top taken away: the last of the hits in order is away. -/
theorem drop_last {M S : List Hv} {k : Nat} (hH : HeapH M) (hp : M.Perm S) (hS : Ris S) (hl : S.length = k + 1) : (dropT M).Perm (S.take k) ∧ hd M 0 = hd S k := by
  have e := list_snoc hl
  rw [e] at hp hS
  have ht := top_last hH hp hS
  have h0 : 0 < M.length := by rw [hp.length_eq]; simp
  have hd := dropT_perm h0
  rw [ht] at hd
  refine ⟨?_, ht⟩
  have := (hd.trans hp).trans (List.perm_append_singleton _ _)
  exact List.Perm.cons_inv this

/-- What stands behind the last of k hits is not among the first k. -/
theorem insH_behind {T : List Hv} {k : Nat} {h : Hv} (hT : Ris T) (hl : T.length = k) (hb : ∀ x ∈ T, hless x h) : (insH T h).take k = T ∧ h ∉ T := by
  subst hl
  refine ⟨?_, fun hm => hless_irrefl h (hb h hm)⟩
  clear hT
  induction T with
  | nil => simp
  | cons x T ih =>
    unfold insH
    rw [if_pos (hb x (by simp)), List.length_cons, List.take_succ_cons, ih (fun y hy => hb y (by simp [hy]))]

theorem take_insH_mem {T : List Hv} {k : Nat} {h : Hv} (hT : Ris T) (hl : T.length ≤ k) (hm : h ∈ T) : (insH T h).take k = T := by
  rw [insH_mem hT hm, List.take_of_length_le hl]

theorem take_insH_room {T : List Hv} {k : Nat} {h : Hv} (hT : Ris T) (hl : T.length < k) (hm : h ∉ T) : (insH T h).take k = insH T h := by
  rw [List.take_of_length_le]
  rw [insH_length hT, if_neg hm]
  omega

/-- h, which stands ahead of the last of k hits, is among the first k. -/
theorem insH_among {T : List Hv} {k : Nat} {h : Hv} (hT : Ris T) (hl : T.length = k + 1) (hm : h ∉ T) (hb : hless h (hd T k)) : h ∈ (insH T h).take (k + 1) ∧ (insH T h).length = k + 2 := by
  have hr := ris_insH hT h
  have hlen : (insH T h).length = k + 2 := by rw [insH_length hT, if_neg hm, hl]
  refine ⟨?_, hlen⟩
  have e := list_snoc hlen
  have hm2 : h ∈ insH T h := (mem_insH T h h).2 (.inr rfl)
  have hlast : hd T k ∈ insH T h := (mem_insH T h _).2 (.inl (List.mem_of_getElem? (hd_get (by omega))))
  rw [e] at hm2 hr hlast
  rcases List.mem_append.1 hm2 with h1 | h1
  · exact h1
  · have h2 := List.mem_singleton.1 h1
    rcases List.mem_append.1 hlast with h3 | h3
    · have := (ris_snoc hr).2 _ h3
      rw [← h2] at this
      exact absurd this (hless_asymm hb)
    · have h4 := List.mem_singleton.1 h3
      rw [← h2] at h4
      rw [h4] at hb
      exact absurd hb (hless_irrefl h)

/-- But for the blocks of F all old ones are as they were. -/
def FrP (w w' : World) (F : Nat → Prop) : Prop :=
  w'.os = w.os ∧ w'.tape = w.tape ∧ w'.output = w.output ∧ w.heap.size ≤ w'.heap.size ∧ ∀ b, b < w.heap.size → ¬ F b → w'.heap[b]? = w.heap[b]?

theorem FrP.refl (w : World) (F : Nat → Prop) : FrP w w F := ⟨rfl, rfl, rfl, Nat.le_refl _, fun _ _ _ => rfl⟩

theorem FrP.of_fr {w w' : World} {S : List (Option Nat)} {F : Nat → Prop} (h : Fr w w' S) (hF : ∀ b, some b ∈ S → b < w.heap.size → F b) : FrP w w' F :=
  ⟨h.1, h.2.1, h.2.2.1, h.2.2.2.1, fun b hb hn => h.2.2.2.2 b hb (fun e => hn (hF b e hb))⟩

theorem FrP.of_below {w w' : World} {F : Nat → Prop} (h : Below w.heap.size w w') : FrP w w' F := ⟨h.os, h.tape, h.output, h.size, fun b hb _ => h.block b hb⟩

theorem FrP.below {w w' : World} {F : Nat → Prop} (h : FrP w w' F) {B : Nat} (hB : B ≤ w.heap.size) (hF : ∀ b, F b → B ≤ b) : Below B w w' :=
  ⟨h.1, h.2.1, h.2.2.1, h.2.2.2.1, fun k hk => h.2.2.2.2 k (by omega) (fun e => by have := hF k e; omega)⟩

theorem FrP.trans {a b c : World} {F G : Nat → Prop} (h : FrP a b F) (k : FrP b c G) (hG : ∀ x, G x → F x ∨ a.heap.size ≤ x) : FrP a c F :=
  ⟨k.1.trans h.1, k.2.1.trans h.2.1, k.2.2.1.trans h.2.2.1, Nat.le_trans h.2.2.2.1 k.2.2.2.1, fun x hx hF => (k.2.2.2.2 x (Nat.lt_of_lt_of_le hx h.2.2.2.1) (fun e => (hG x e).elim hF (fun g => by omega))).trans (h.2.2.2.2 x hx hF)⟩

theorem FrP.trans_gr {a b c : World} {F : Nat → Prop} (h : FrP a b F) (k : Gr b c) : FrP a c F :=
  h.trans (G := fun _ => False) (FrP.of_below k.below) (fun _ hx => hx.elim)

theorem FrP.of_gr {a b : World} {F : Nat → Prop} (k : Gr a b) : FrP a b F := FrP.of_below k.below

theorem PileIs.ofP {w w' : World} {pb mb : Nat} {v : Value} {L : List Hv} (h : PileIs w pb mb v L) {F : Nat → Prop} (hf : FrP w w' F) (h1 : ¬ F pb) (h2 : ¬ F mb) (h3 : ∀ g, v.ownBlock = some g → ¬ F g) : PileIs w' pb mb v L := by
  refine ⟨(hf.2.2.2.2 pb h.lt h1).trans h.box, ?_, h.has.of (hf.2.2.2.2 mb h.has.lt h2), h.nodup, h.good⟩
  refine ⟨h.row.1, ?_⟩
  rcases h.row.2 with k | ⟨g, c, cur, k, k1, k2, k3, k4, k5⟩
  · exact .inl k
  · exact .inr ⟨g, c, cur, k, k1, (hf.2.2.2.2 g (Array.getElem?_eq_some_iff.1 k2).1 (h3 g (by rw [k]; rfl))).trans k2, k3, k4, k5⟩

/-- The blocks of a pile and of what holds it. -/
def Foot (tb pb mb : Nat) (v : Value) (b : Nat) : Prop := b = tb ∨ b = pb ∨ b = mb ∨ v.ownBlock = some b

/-- Block tb is a box of n and of a pile of the hits T. ty: best.Top or best.Ball. -/
def Heap1 (ty : TypeId) (w : World) (tb : Nat) (n : Int) (T : List Hv) (F : Nat → Prop) : Prop :=
  ∃ pb mb v L, w.heap[tb]? = some (.cells #[.int .i64 n, .pointer (some ⟨pb, 0, none⟩)] ty (0, 0)) ∧ PileIs w pb mb v L ∧ HeapH L ∧ L.Perm T ∧ Ris T ∧ F = Foot tb pb mb v

theorem Heap1.lt {ty : TypeId} {w : World} {tb : Nat} {n : Int} {T : List Hv} {F : Nat → Prop} (h : Heap1 ty w tb n T F) : ∀ b, F b → b < w.heap.size := by
  obtain ⟨pb, mb, v, L, h1, h2, h3, h4, h5, rfl⟩ := h
  rintro b (rfl | rfl | rfl | hb)
  · exact (Array.getElem?_eq_some_iff.1 h1).1
  · exact h2.lt
  · exact h2.has.lt
  · exact (h2.row.lt b hb).2

theorem Heap1.keep {ty : TypeId} {w w' : World} {tb : Nat} {n : Int} {T : List Hv} {F G : Nat → Prop} (h : Heap1 ty w tb n T F) (hf : FrP w w' G) (hd : ∀ b, F b → ¬ G b) : Heap1 ty w' tb n T F := by
  obtain ⟨pb, mb, v, L, h1, h2, h3, h4, h5, rfl⟩ := h
  exact ⟨pb, mb, v, L, (hf.2.2.2.2 tb (Array.getElem?_eq_some_iff.1 h1).1 (hd _ (.inl rfl))).trans h1, h2.ofP hf (hd _ (.inr (.inl rfl))) (hd _ (.inr (.inr (.inl rfl)))) (fun g hg => hd _ (.inr (.inr (.inr hg)))), h3, h4, h5, rfl⟩

theorem Heap1.below {ty : TypeId} {w w' : World} {tb : Nat} {n : Int} {T : List Hv} {F : Nat → Prop} (h : Heap1 ty w tb n T F) (hb : Below w.heap.size w w') : Heap1 ty w' tb n T F :=
  h.keep (FrP.of_below (F := fun _ => False) hb) (fun _ _ => id)

theorem Heap1.ris {ty : TypeId} {w : World} {tb : Nat} {n : Int} {T : List Hv} {F : Nat → Prop} (h : Heap1 ty w tb n T F) : Ris T ∧ ∀ x ∈ T, GoodH x := by
  obtain ⟨pb, mb, v, L, h1, h2, h3, h4, h5, rfl⟩ := h
  exact ⟨h5, fun x hx => h2.good x ((h4.mem_iff).2 hx)⟩
end Go.Proofs.YtmfanldekjkbiaaDoor

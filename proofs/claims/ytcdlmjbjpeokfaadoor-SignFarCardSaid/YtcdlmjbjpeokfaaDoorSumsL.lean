/-
  SMALL LAWS for the walk of sums: the marks of loops that are over; what the walk holds between two rounds.
-/
import Derived.Test.YtcdlmjbjpeokfaaDoorSumsP
import Derived.Test.YtcdlmjbjpeokfaaDoorRound
import Derived.Deep.RegionHeldLaw
namespace Go.Proofs.YtcdlmjbjpeokfaaDoor
open Go.RowKit Go.Shelf
set_option linter.unusedVariables false

/-- The marks of loops that are over. -/
def marksD (Ds : List Nat) : List Deferred := Ds.map fun D => { target := .collected D, args := #[] }

def CollD (base B : Nat) (Ds : List Nat) (W : World) : Prop := Ds.Nodup ∧ ∀ D, D ∈ Ds → base ≤ D ∧ D < B ∧ W.heap[D]? = some (.deferred (some []))

theorem CollD.own {α : Type} (base B B' : Nat) (hB : B ≤ B') (Ds : List Nat) : OwnFrom (β := List α) B' (fun _ W => CollD base B Ds W) := by
  rintro _ X Y row ⟨h1, h2⟩ hg hr
  refine ⟨h1, fun D hD => ?_⟩
  obtain ⟨k1, k2, k3⟩ := h2 D hD
  refine ⟨k1, k2, (hg.block D (Array.getElem?_eq_some_iff.1 k3).1 (fun e => ?_)).trans k3⟩
  have := (hr D e.symm).1
  omega

theorem CollD.mono {base B B' : Nat} {Ds : List Nat} {W : World} (h : CollD base B Ds W) (hB : B ≤ B') : CollD base B' Ds W := ⟨h.1, fun D hD => by obtain ⟨k1, k2, k3⟩ := h.2 D hD; exact ⟨k1, by omega, k3⟩⟩

theorem CollD.below {base B : Nat} {Ds : List Nat} {W W' : World} (h : CollD base B Ds W) (hb : Below W.heap.size W W') : CollD base B Ds W' :=
  ⟨h.1, fun D hD => by obtain ⟨k1, k2, k3⟩ := h.2 D hD; exact ⟨k1, k2, (hb.block D (Array.getElem?_eq_some_iff.1 k3).1).trans k3⟩⟩

theorem CollD.set {base B : Nat} {Ds : List Nat} {W : World} (h : CollD base B Ds W) {g : Nat} {o : Obj} (ho : W.heap[g]? = some o) (hc : o.isCells = true) (j : Nat) (u : Value) : CollD base B Ds (W.setCell ⟨g, j, none⟩ u) :=
  ⟨h.1, fun D hD => by
    obtain ⟨k1, k2, k3⟩ := h.2 D hD
    refine ⟨k1, k2, (Below.heap_setCell W ⟨g, j, none⟩ u D (fun e => ?_)).trans k3⟩
    subst e
    rw [ho] at k3
    cases k3
    cases hc⟩

theorem CollD.cons {base B D : Nat} {Ds : List Nat} {W : World} (h : CollD base B Ds W) (h1 : base ≤ D) (h2 : B ≤ D) (h3 : W.heap[D]? = some (.deferred (some []))) : CollD base (D + 1) (D :: Ds) W := by
  refine ⟨List.nodup_cons.2 ⟨fun hm => by have := (h.2 D hm).2.1; omega, h.1⟩, fun E hE => ?_⟩
  rcases List.mem_cons.1 hE with rfl | hE
  · exact ⟨h1, by omega, h3⟩
  · obtain ⟨k1, k2, k3⟩ := h.2 E hE
    exact ⟨k1, by omega, k3⟩

theorem leaves_coll {F : Fence} {n : Nat} {P : Program} {fn : Func} {tmps : Array Value} {R : Ending → World → Prop} {base B : Nat} (S : World → Prop)
    (hput : ∀ W D, base ≤ D → W.heap[D]? = some (.deferred (some [])) → S W → S (W.putObj D (.deferred none))) (hfin : ∀ W, S W → LeavesIn F n P fn tmps R [] .returning W) :
    ∀ (Ds : List Nat) (W : World), CollD base B Ds W → S W → LeavesInM F n P fn tmps R (marksD Ds) .returning W
  | [], W, _, hS => hfin W hS
  | D :: Ds, W, h, hS => by
    obtain ⟨k1, k2, k3⟩ := h.2 D (List.mem_cons_self ..)
    obtain ⟨n1, n2⟩ := List.nodup_cons.1 h.1
    refine ⟨by simp, .inl ⟨D, _, rfl, run_takeDeferred k3, ?_⟩⟩
    refine leaves_coll (B := B) S hput hfin Ds _ ⟨n2, fun E hE => ?_⟩ (hput W D k1 k3 hS)
    obtain ⟨e1, e2, e3⟩ := h.2 E (List.mem_cons_of_mem _ hE)
    refine ⟨e1, e2, (World.putObj_heap_other (fun e => n1 (by rw [← e]; exact hE))).trans e3⟩

/-- The list of sums while direction j is summed: c so far. -/
def LX (S : Nat → Int × Int) (h j : Nat) (c : Int × Int) (xs : List Value) : Prop :=
  (∀ i, i < j → i < h → ∃ a b, xs[i]? = some (.complex .f64 a b) ∧ IsW a (S i).1 ∧ IsW b (S i).2) ∧ (j < h → ∃ a b, xs[j]? = some (.complex .f64 a b) ∧ IsW a c.1 ∧ IsW b c.2) ∧ ∀ i, j < i → i < h → xs[i]? = some (.complex .f64 0 0)

theorem LX.set {S : Nat → Int × Int} {h j : Nat} {c c' : Int × Int} {xs : List Value} (hx : LX S h j c xs) (hl : xs.length = h) (hj : j < h) {a b : Nat} (ha : IsW a c'.1) (hb : IsW b c'.2) : LX S h j c' (xs.set j (.complex .f64 a b)) := by
  obtain ⟨h1, h2, h3⟩ := hx
  refine ⟨fun i hi hh => ?_, fun _ => ⟨a, b, ?_, ha, hb⟩, fun i hi hh => ?_⟩
  · rw [List.getElem?_set_ne (by omega)]; exact h1 i hi hh
  · rw [List.getElem?_set_self (by omega)]
  · rw [List.getElem?_set_ne (by omega)]; exact h3 i hi hh

theorem LX.next {S : Nat → Int × Int} {h j : Nat} {xs : List Value} (hx : LX S h j (S j) xs) : LX S h (j + 1) (0, 0) xs := by
  obtain ⟨h1, h2, h3⟩ := hx
  refine ⟨fun i hi hh => ?_, fun hj => ⟨0, 0, h3 _ (by omega) hj, IsW.zero, IsW.zero⟩, fun i hi hh => h3 i (by omega) hh⟩
  by_cases e : i = j
  · subst e; exact h2 hh
  · exact h1 i (by omega) hh

theorem LX.start (S : Nat → Int × Int) (h : Nat) : LX S h 0 (0, 0) (List.replicate h (.complex .f64 0 0)) :=
  ⟨fun i hi => absurd hi (Nat.not_lt_zero _), fun hj => ⟨0, 0, by rw [List.getElem?_replicate, if_pos hj], IsW.zero, IsW.zero⟩, fun i _ hh => by rw [List.getElem?_replicate, if_pos hh]⟩

/-- What the walk holds. -/
def SInv (base B6 B9 G9 : Nat) (T C : TypeId) (v : Value) (m h : Nat) (PX : List Value) (w0 : World) (S : Nat → Int × Int) (j : Nat) (c : Int × Int) (W : World) : Prop :=
  (Boxed W B6 T v ∧ W.ownsRow base C 1 v m PX) ∧ (Boxed W B9 T (.slice (some ⟨G9, 0, none⟩) h h) ∧ ∃ xs, W.ownsRow G9 C 1 (.slice (some ⟨G9, 0, none⟩) h h) h xs ∧ LX S h j c xs) ∧ Below base w0 W

theorem SInv.own {α : Type} {base B6 B9 G9 : Nat} {T C : TypeId} {v : Value} {m h : Nat} {PX : List Value} {w0 : World} {S : Nat → Int × Int} {j : Nat} (c : List α → Int × Int) {B : Nat} (h0 : base ≤ w0.heap.size) (hB : base ≤ B) :
    OwnFrom B (fun (pre : List α) W => SInv base B6 B9 G9 T C v m h PX w0 S j (c pre) W) := by
  rintro pre X Y row ⟨⟨h1, h2⟩, ⟨h3, xs, h4, h5⟩, h6⟩ hg hr
  have hr' := fun r e => (hr r e).2
  obtain ⟨_, k1, k2, rfl⟩ := holdsRow_own (β := Unit) base B6 T C 1 (fun _ => m) (fun _ => PX) (fun _ u => u = v) () X Y row ⟨v, h1, h2, rfl⟩ hg hr'
  obtain ⟨_, k3, k4, rfl⟩ := holdsRow_own (β := Unit) G9 B9 T C 1 (fun _ => h) (fun _ => xs) (fun _ u => u = (.slice (some ⟨G9, 0, none⟩) h h)) () X Y row ⟨_, h3, h4, rfl⟩ hg hr'
  exact ⟨⟨k1, k2⟩, ⟨k3, xs, k4, h5⟩, ownFrom_below (β := Unit) h0 hB () X Y row h6 hg hr⟩

theorem SInv.below {base B6 B9 G9 : Nat} {T C : TypeId} {v : Value} {m h : Nat} {PX : List Value} {w0 : World} {S : Nat → Int × Int} {j : Nat} {c : Int × Int} {W W' : World} (hi : SInv base B6 B9 G9 T C v m h PX w0 S j c W) (h0 : base ≤ w0.heap.size) (hb : Below W.heap.size W W') : SInv base B6 B9 G9 T C v m h PX w0 S j c W' := by
  obtain ⟨⟨h1, h2⟩, ⟨h3, xs, h4, h5⟩, h6⟩ := hi
  have hk : ∀ {B t u}, Boxed W B t u → Boxed W' B t u := fun hx => (hb.block _ hx.lt).trans hx
  exact ⟨⟨hk h1, own_belowAll h2 hb⟩, ⟨hk h3, xs, own_belowAll h4 hb, h5⟩, h6.trans (hb.mono (Nat.le_trans h0 h6.size))⟩
end Go.Proofs.YtcdlmjbjpeokfaaDoor

/-
  PLAIN LAWS for the law SignSums: what stays in memory from round to round; reading the argument.
-/
import Derived.Test.YtcdlmjbjpeokfaaApartS
import Derived.Test.YtcdlmjbjpeokfaaSameP
import Derived.Test.YtcdlmjbjpeokfaaNewS
import Derived.Test.YtcdlmjbjpeokfaaArgK
namespace Go.Proofs.Ytcdlmjbjpeokfaa
open Go.RowKit ArgK
set_option linter.unusedVariables false

theorem add_fieldS (a : Addr) (i k : Nat) (hk : k ≠ 0) : (⟨(a.add i).block, (a.add i).off + k, none⟩ : Addr) = a.add (i + k) := by
  unfold Addr.add
  by_cases hi : i = 0
  · subst hi; simp [hk]
  · simp [hi, hk, Nat.add_assoc]
/-- A part's cells. -/
def IsPt (cs : List Value) (x : Int × Int) : Prop := cs = cellsP x ∧ (Lit.int .i64 x.1).wf = true ∧ (Lit.int .i64 x.2).wf = true
theorem rd_Part (W : World) : RdT Try.prog W 33 IsPt (fun _ => 3) := by
  have e : Try.prog.cellsOf 33 = 2 := by kernel_rfl
  have e1 : Try.prog.cellsOf 3 = 1 := by kernel_rfl
  refine RdT.mono (rd_struct Try.underlying33 (rdf_cons (rd_int Try.underlying3) (rdf_cons (rd_int Try.underlying3) rdf_nil))) ?_
  rintro cs ⟨d, i, u⟩ ⟨hl, h0, h1, _⟩
  simp only [e1] at h0 h1
  rw [e] at hl
  match cs, hl with
  | [c0, c1], _ =>
    simp at h0 h1
    exact ⟨⟨d, i⟩, ⟨by rw [h0.1, h1.1]; rfl, h0.2, h1.2⟩, by show 3 ≤ 1 + (1 + 0) + 1; omega⟩
theorem parts_of_arg {w : World} {v : Value} {z : List (Int × Int)} (h : IsSl w 2 16 IsPt [v] z) : z.length * 16 ≤ 140737488351232 ∧ (∃ (p : Option Addr) (cap : Nat), v = .slice p z.length cap ∧ PL w p z) ∧ ∀ x ∈ z, (Lit.int .i64 x.1).wf = true ∧ (Lit.int .i64 x.2).wf = true := by
  obtain ⟨h1, h2⟩ := h
  refine ⟨h1, ?_⟩
  rcases h2 with ⟨h, rfl⟩ | ⟨a, cap, h, _, _, hc⟩
  · cases h
    exact ⟨⟨none, 0, rfl, fun i x hx => by simp at hx⟩, fun x hx => by simp at hx⟩
  · cases h
    refine ⟨⟨some a, cap, rfl, fun i x hx => ?_⟩, fun x hx => ?_⟩
    · obtain ⟨c, _, hr, hcell⟩ := hc i x hx
      obtain ⟨rfl, _⟩ := hr
      refine ⟨a, rfl, hcell 0 (by decide), ?_⟩
      rw [add_fieldS _ _ _ (by decide)]; exact hcell 1 (by decide)
    · obtain ⟨i, hi, hx⟩ := List.getElem_of_mem hx
      obtain ⟨c, _, hr, _⟩ := hc i x (by rw [List.getElem?_eq_getElem hi, hx])
      exact hr.2
theorem grown_allocS {a w : World} {row : Option Nat} (h : a.grownBy w row) (o : Obj) : a.grownBy (w.alloc o) row :=
  ⟨h.os, h.tape, h.output, by have := h.size; simp; omega, fun k hk hr => (Below.heap_alloc w o k (by have := h.size; omega)).trans (h.block k hk hr)⟩
theorem grown_setS {a w : World} {row : Option Nat} (h : a.grownBy w row) (p : Addr) (hp : a.heap.size ≤ p.block) (v : Value) : a.grownBy (w.setCell p v) row := by
  have hb := (Below.refl a.heap.size w).setCell (p := p) hp v
  exact ⟨h.os, h.tape, h.output, by simpa using h.size, fun k hk hr => (hb.block k hk).trans (h.block k hk hr)⟩
theorem grown_liesS {a w w' : World} {row : Option Nat} {v : Value} {n g cap : Nat} (h : a.grownBy w row) (hl : Lies w w' v n g cap) (hv : ∀ b, v.ownBlock = some b → a.heap.size ≤ b) : a.grownBy w' row := by
  have hr := hl.row
  exact ⟨hr.os.trans h.os, hr.tape.trans h.tape, hr.output.trans h.output, Nat.le_trans h.size hr.size, fun k hk hw => (hl.block (by have := h.size; omega) (fun e => by have := hv k e; omega)).trans (h.block k hk hw)⟩
/-- The vector of a round. -/
def turnS (zs : List (Int × Int)) (k : Nat) : List (Int × Int) := if k = 2 ∨ k = 3 then zs.reverse else zs
theorem turnS_length (zs : List (Int × Int)) (k : Nat) : (turnS zs k).length = zs.length := by unfold turnS; split <;> simp
theorem Lists.other {w w' : World} {B : Nat} {tl te : TypeId} {sz k : Nat} {l : Value} {L : Nat → Value} {N : Nat → Nat} {X : Nat → List Value} (h : Lists w B tl te sz k l L N X) {B' : Nat} {lv : Value} {m : Nat} {ys : List Value} (hv : w.ownsRow B' tl 1 lv m ys)
    (hne : ∀ b, lv.ownBlock = some b → l.ownBlock ≠ some b) (hte : tl ≠ te) (o : Obj) {j g cap : Nat} (hlies : Lies (w.alloc o) w' lv j g cap) : Lists w' B tl te sz k l L N X :=
  ⟨hlies.own (h.1.alloc o) (fun b hb e => hne b e hb), fun i hi => hlies.own ((h.2.1 i hi).alloc o) (fun b hb e => own_ne hv (h.2.1 i hi) hte b e hb), h.2.2⟩
theorem Lists.grown {w w' : World} {B : Nat} {tl te : TypeId} {sz k : Nat} {l : Value} {L : Nat → Value} {N : Nat → Nat} {X : Nat → List Value} (h : Lists w B tl te sz k l L N X) {row : Option Nat} (hg : w.grownBy w' row) (hr : ∀ b, row = some b → b < B) : Lists w' B tl te sz k l L N X :=
  ⟨own_grown h.1 hg (fun b hb e => by have := (h.1.lt b hb).1; have := hr b e; omega), fun i hi => own_grown (h.2.1 i hi) hg (fun b hb e => by have := ((h.2.1 i hi).lt b hb).1; have := hr b e; omega), h.2.2⟩
/-- WHAT STAYS: both signers, the mark, the lists of sums and the wanted ones. -/
def SgS (w : World) (b0 : Nat) (wd dm sd : Int) (k1 k2 : Nat) (lv wv : Value) (L M : Nat → Value) (X : Nat → List (Int × Int)) : Prop :=
  Sg w 61 b0 wd dm sd ∧ Sg w 64 (b0 + 1) wd dm sd ∧ Pb w (b0 + 2) (-77, 77) ∧
  Lists w (b0 + 4) 24 33 2 k1 lv L (fun j => (X j).length) (fun j => encP (X j)) ∧
  Lists w (b0 + 4) 24 33 2 k2 wv M (fun j => (X j).length) (fun j => encP (X j)) ∧
  (∀ b, lv.ownBlock = some b → wv.ownBlock ≠ some b)
section
variable {w w' : World} {b0 : Nat} {wd dm sd : Int} {k1 k2 : Nat} {lv wv va : Value} {L M : Nat → Value} {X : Nat → List (Int × Int)}
theorem SgS.below (h : SgS w b0 wd dm sd k1 k2 lv wv L M X) (hb : Below w.heap.size w w') : SgS w' b0 wd dm sd k1 k2 lv wv L M X :=
  ⟨h.1.of (hb.block _ h.1.lt), h.2.1.of (hb.block _ h.2.1.lt), h.2.2.1.of (hb.block _ h.2.2.1.lt), h.2.2.2.1.below hb, h.2.2.2.2.1.below hb, h.2.2.2.2.2⟩
theorem SgS.grown (h : SgS w b0 wd dm sd k1 k2 lv wv L M X) (hg : w.grownBy w' (some (b0 + 3))) : SgS w' b0 wd dm sd k1 k2 lv wv L M X := by
  have hs : ∀ b, some (b0 + 3) = some b → b < b0 + 4 := fun b e => by cases e; omega
  have hn : ∀ d, d ≠ 3 → some (b0 + d) ≠ some (b0 + 3) := fun d hd e => by have := Option.some.inj e; omega
  exact ⟨h.1.of (hg.block _ h.1.lt (hn 0 (by decide))), h.2.1.of (hg.block _ h.2.1.lt (hn 1 (by decide))), h.2.2.1.of (hg.block _ h.2.2.1.lt (hn 2 (by decide))), h.2.2.2.1.grown hg hs, h.2.2.2.2.1.grown hg hs, h.2.2.2.2.2⟩
theorem SgS.step1 (h : SgS w b0 wd dm sd k1 k2 lv wv L M X) (hv : w.ownsRow (b0 + 4) 33 2 va (X k1).length (encP (X k1))) (hnew : ∀ b, va.ownBlock = some b → ∀ j, j < k1 → (L j).ownBlock ≠ some b) (o : Obj) {g cap : Nat}
    (hown : w'.ownsRow (b0 + 4) 24 1 (.slice (some ⟨g, 0, none⟩) (k1 + 1) cap) (k1 + 1) ((List.range k1).map L ++ [va])) (hlies : Lies (w.alloc o) w' lv k1 g cap) :
    SgS w' b0 wd dm sd (k1 + 1) k2 (.slice (some ⟨g, 0, none⟩) (k1 + 1) cap) wv (fun j => if j = k1 then va else L j) M X := by
  obtain ⟨h1, h2, h3, h4, h5, h6⟩ := h
  have hlo : ∀ b, b < b0 + 4 → b < w.heap.size → w'.heap[b]? = w.heap[b]? := fun b hb hs => (hlies.block (k := b) (by simp; omega) (fun e => by have := (h4.1.lt b e).1; omega)).trans (Below.heap_alloc w o b hs)
  refine ⟨h1.of (hlo _ (by omega) h1.lt), h2.of (hlo _ (by omega) h2.lt), h3.of (hlo _ (by omega) h3.lt), h4.step hv hnew (by decide) o hown hlies, h5.other h4.1 h6 (by decide) o hlies, ?_⟩
  rintro b hb e
  obtain rfl : g = b := Option.some.inj hb
  rcases hlies with ⟨hl, _⟩ | ⟨hl, _⟩
  · exact h6 g (by rw [hl]; rfl) e
  · have := (h5.1.lt _ e).2
    simp at hl
    omega
theorem SgS.step2 (h : SgS w b0 wd dm sd k1 k2 lv wv L M X) (hv : w.ownsRow (b0 + 4) 33 2 va (X k2).length (encP (X k2))) (hnew : ∀ b, va.ownBlock = some b → ∀ j, j < k2 → (M j).ownBlock ≠ some b) (o : Obj) {g cap : Nat}
    (hown : w'.ownsRow (b0 + 4) 24 1 (.slice (some ⟨g, 0, none⟩) (k2 + 1) cap) (k2 + 1) ((List.range k2).map M ++ [va])) (hlies : Lies (w.alloc o) w' wv k2 g cap) :
    SgS w' b0 wd dm sd k1 (k2 + 1) lv (.slice (some ⟨g, 0, none⟩) (k2 + 1) cap) L (fun j => if j = k2 then va else M j) X := by
  obtain ⟨h1, h2, h3, h4, h5, h6⟩ := h
  have hlo : ∀ b, b < b0 + 4 → b < w.heap.size → w'.heap[b]? = w.heap[b]? := fun b hb hs => (hlies.block (k := b) (by simp; omega) (fun e => by have := (h5.1.lt b e).1; omega)).trans (Below.heap_alloc w o b hs)
  refine ⟨h1.of (hlo _ (by omega) h1.lt), h2.of (hlo _ (by omega) h2.lt), h3.of (hlo _ (by omega) h3.lt), h4.other h5.1 (fun b hb e => h6 b e hb) (by decide) o hlies, h5.step hv hnew (by decide) o hown hlies, ?_⟩
  rintro b hb e
  obtain rfl : g = b := Option.some.inj e
  rcases hlies with ⟨hl, _⟩ | ⟨hl, _⟩
  · exact h6 g hb (by rw [hl]; rfl)
  · have := (h4.1.lt _ hb).2
    simp at hl
    omega
end
theorem encP_app (L M : List (Int × Int)) : encP (L ++ M) = encP L ++ encP M := by simp [encP]
theorem oneCellsP (x : Int × Int) : ∀ u ∈ cellsP x, u.oneCell' = true := by simp [cellsP, Value.oneCell']
end Go.Proofs.Ytcdlmjbjpeokfaa

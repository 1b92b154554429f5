/-
  FOUR THINGS in memory that share nothing: two tops (balls) of the program's, two of the document's.
-/
import Derived.Test.YtahceakghgmpkaaTopped
import Derived.Test.YtahceakghgmpkaaArgHb
namespace Go.Proofs.Ytahceakghgmpkaa
open Go.RowKit
set_option linter.unusedVariables false

def Quad (bt rt : TypeId) (w : World) (ta tq ub pb : Nat) (n1 n2 : Int) (T O S P : List Hv) (wr : World) : Prop :=
  ∃ (own : Nat → Nat) (F G H I : Nat → Prop), Heap1 bt wr ta n1 T F ∧ Heap1 bt wr tq n2 O G ∧ RefIs rt wr ub n1 S H ∧ RefIs rt wr pb n2 P I ∧
    (∀ b, F b → own b = 1) ∧ (∀ b, G b → own b = 2) ∧ (∀ b, H b → own b = 3) ∧ (∀ b, I b → own b = 4) ∧ Below w.heap.size w wr ∧ ∀ b, own b ≠ 0 → w.heap.size ≤ b

section
variable {bt rt : TypeId} {w wr : World} {ta tq ub pb : Nat} {n1 n2 : Int} {T O S P : List Hv}

theorem Quad.bel (h : Quad bt rt w ta tq ub pb n1 n2 T O S P wr) : Below w.heap.size w wr := by
  obtain ⟨own, F, G, H, I, h1, h2, h3, h4, o1, o2, o3, o4, hb, hl⟩ := h
  exact hb

theorem Quad.below (h : Quad bt rt w ta tq ub pb n1 n2 T O S P wr) {w' : World} (hb : Below wr.heap.size wr w') : Quad bt rt w ta tq ub pb n1 n2 T O S P w' := by
  obtain ⟨own, F, G, H, I, h1, h2, h3, h4, o1, o2, o3, o4, hb0, hl⟩ := h
  exact ⟨own, F, G, H, I, h1.below hb, h2.below hb, h3.below hb, h4.below hb, o1, o2, o3, o4, hb0.trans (hb.mono hb0.size), hl⟩

theorem own_next {own : Nat → Nat} {F F' : Nat → Prop} {N i : Nat} (h : ∀ b, F b → own b = i) (h' : ∀ x, F' x → F x ∨ N ≤ x) (hlt : ∀ b, F b → b < N) : ∀ b, F' b → (if b < N then own b else i) = i := by
  intro b hb
  split
  · rename_i hlt'
    rcases h' b hb with h1 | h1
    · exact h b h1
    · omega
  · rfl

theorem own_else {own : Nat → Nat} {G : Nat → Prop} {N i j : Nat} (h : ∀ b, G b → own b = j) (hlt : ∀ b, G b → b < N) : ∀ b, G b → (if b < N then own b else i) = j := by
  intro b hb
  rw [if_pos (hlt b hb)]
  exact h b hb

theorem own_low {own : Nat → Nat} {N M i : Nat} (hM : M ≤ N) (h : ∀ b, own b ≠ 0 → M ≤ b) : ∀ b, (if b < N then own b else i) ≠ 0 → M ≤ b := by
  intro b hb
  split at hb
  · exact h b hb
  · omega

theorem own_ne2 {own : Nat → Nat} {F G : Nat → Prop} {i j : Nat} (hij : i ≠ j) (hF : ∀ b, F b → own b = i) (hG : ∀ b, G b → own b = j) : ∀ b, G b → ¬ F b := fun b hb hf => hij ((hF b hf).symm.trans (hG b hb))

theorem Quad.add1 {T' : List Hv} {b : Bool} (h : Quad bt rt w ta tq ub pb n1 n2 T O S P wr) {f : FuncId} {args : Array Value} {PP : Program}
    (hC : ∀ F, Heap1 bt wr ta n1 T F → Calls PP f args wr (AddedPost bt wr ta n1 T' b F)) : Calls PP f args wr fun e w' => e = .returned (.bool b) ∧ Quad bt rt w ta tq ub pb n1 n2 T' O S P w' := by
  obtain ⟨own, F, G, H, I, h1, h2, h3, h4, o1, o2, o3, o4, hb, hl⟩ := h
  refine (hC F h1).mono ?_
  rintro e w' ⟨he, F', k1, k2, k3⟩
  exact ⟨he, fun x => if x < wr.heap.size then own x else 1, F', G, H, I, k1, h2.keep k2 (own_ne2 (by decide) o1 o2), h3.keep k2 (own_ne2 (by decide) o1 o3), h4.keep k2 (own_ne2 (by decide) o1 o4),
    own_next o1 k3 h1.lt, own_else o2 h2.lt, own_else o3 h3.lt, own_else o4 h4.lt, hb.trans (k2.below hb.size (fun x hx => hl x (by rw [o1 x hx]; decide))), own_low hb.size hl⟩

theorem Quad.add2 {O' : List Hv} {b : Bool} (h : Quad bt rt w ta tq ub pb n1 n2 T O S P wr) {f : FuncId} {args : Array Value} {PP : Program}
    (hC : ∀ F, Heap1 bt wr tq n2 O F → Calls PP f args wr (AddedPost bt wr tq n2 O' b F)) : Calls PP f args wr fun e w' => e = .returned (.bool b) ∧ Quad bt rt w ta tq ub pb n1 n2 T O' S P w' := by
  obtain ⟨own, F, G, H, I, h1, h2, h3, h4, o1, o2, o3, o4, hb, hl⟩ := h
  refine (hC G h2).mono ?_
  rintro e w' ⟨he, G', k1, k2, k3⟩
  exact ⟨he, fun x => if x < wr.heap.size then own x else 2, F, G', H, I, h1.keep k2 (own_ne2 (by decide) o2 o1), k1, h3.keep k2 (own_ne2 (by decide) o2 o3), h4.keep k2 (own_ne2 (by decide) o2 o4),
    own_else o1 h1.lt, own_next o2 k3 h2.lt, own_else o3 h3.lt, own_else o4 h4.lt, hb.trans (k2.below hb.size (fun x hx => hl x (by rw [o2 x hx]; decide))), own_low hb.size hl⟩

theorem Quad.add3 {S' : List Hv} {b : Bool} (h : Quad bt rt w ta tq ub pb n1 n2 T O S P wr) {f : FuncId} {args : Array Value} {PP : Program}
    (hC : ∀ F, RefIs rt wr ub n1 S F → Calls PP f args wr (RAddPost rt wr ub n1 S' b F)) : Calls PP f args wr fun e w' => e = .returned (.bool b) ∧ Quad bt rt w ta tq ub pb n1 n2 T O S' P w' := by
  obtain ⟨own, F, G, H, I, h1, h2, h3, h4, o1, o2, o3, o4, hb, hl⟩ := h
  refine (hC H h3).mono ?_
  rintro e w' ⟨he, H', k1, k2, k3⟩
  exact ⟨he, fun x => if x < wr.heap.size then own x else 3, F, G, H', I, h1.keep k2 (own_ne2 (by decide) o3 o1), h2.keep k2 (own_ne2 (by decide) o3 o2), k1, h4.keep k2 (own_ne2 (by decide) o3 o4),
    own_else o1 h1.lt, own_else o2 h2.lt, own_next o3 k3 h3.lt, own_else o4 h4.lt, hb.trans (k2.below hb.size (fun x hx => hl x (by rw [o3 x hx]; decide))), own_low hb.size hl⟩

theorem Quad.add4 {P' : List Hv} {b : Bool} (h : Quad bt rt w ta tq ub pb n1 n2 T O S P wr) {f : FuncId} {args : Array Value} {PP : Program}
    (hC : ∀ F, RefIs rt wr pb n2 P F → Calls PP f args wr (RAddPost rt wr pb n2 P' b F)) : Calls PP f args wr fun e w' => e = .returned (.bool b) ∧ Quad bt rt w ta tq ub pb n1 n2 T O S P' w' := by
  obtain ⟨own, F, G, H, I, h1, h2, h3, h4, o1, o2, o3, o4, hb, hl⟩ := h
  refine (hC I h4).mono ?_
  rintro e w' ⟨he, I', k1, k2, k3⟩
  exact ⟨he, fun x => if x < wr.heap.size then own x else 4, F, G, H, I', h1.keep k2 (own_ne2 (by decide) o4 o1), h2.keep k2 (own_ne2 (by decide) o4 o2), h3.keep k2 (own_ne2 (by decide) o4 o3), k1,
    own_else o1 h1.lt, own_else o2 h2.lt, own_else o3 h3.lt, own_next o4 k3 h4.lt, hb.trans (k2.below hb.size (fun x hx => hl x (by rw [o4 x hx]; decide))), own_low hb.size hl⟩

/-- Made: the program's first, the document's first, the program's second, the document's second. -/
theorem Quad.start {w x1 x2 x3 x4 : World} {F H G I : Nat → Prop} (h1 : Heap1 bt x1 ta n1 [] F) (g1 : Gr w x1) (f1 : ∀ b, F b → w.heap.size ≤ b) (h2 : RefIs rt x2 ub n1 [] H) (g2 : Gr x1 x2) (f2 : ∀ b, H b → x1.heap.size ≤ b)
    (h3 : Heap1 bt x3 tq n2 [] G) (g3 : Gr x2 x3) (f3 : ∀ b, G b → x2.heap.size ≤ b) (h4 : RefIs rt x4 pb n2 [] I) (g4 : Gr x3 x4) (f4 : ∀ b, I b → x3.heap.size ≤ b) : Quad bt rt w ta tq ub pb n1 n2 [] [] [] [] x4 := by
  have s1 := g1.below.size
  have s2 := g2.below.size
  have s3 := g3.below.size
  have s4 := g4.below.size
  refine ⟨fun b => if b < w.heap.size then 0 else if b < x1.heap.size then 1 else if b < x2.heap.size then 3 else if b < x3.heap.size then 2 else 4, F, G, H, I, ((h1.below g2.below).below g3.below).below g4.below, h3.below g4.below, (h2.below g3.below).below g4.below, h4, ?_, ?_, ?_, ?_, (((g1.trans g2).trans g3).trans g4).below, ?_⟩
  · intro b hb
    have := f1 b hb
    have := h1.lt b hb
    show (if _ then _ else _) = 1
    rw [if_neg (by omega), if_pos (by omega)]
  · intro b hb
    have := f3 b hb
    have := h3.lt b hb
    show (if _ then _ else _) = 2
    rw [if_neg (by omega), if_neg (by omega), if_neg (by omega), if_pos (by omega)]
  · intro b hb
    have := f2 b hb
    have := h2.lt b hb
    show (if _ then _ else _) = 3
    rw [if_neg (by omega), if_neg (by omega), if_pos (by omega)]
  · intro b hb
    have := f4 b hb
    show (if _ then _ else _) = 4
    rw [if_neg (by omega), if_neg (by omega), if_neg (by omega), if_neg (by omega)]
  · intro b hb
    by_cases e : b < w.heap.size
    · exact absurd (if_pos e) hb
    · omega
end
end Go.Proofs.Ytahceakghgmpkaa

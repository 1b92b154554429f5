/-
  SOURCES of a merger: what they are in memory, and what they answer.
-/
import Derived.Test.YtahdaccmokjgpaaHeapQ
import Derived.Test.YtahdaccmokjgpaaMrg
namespace Go.Proofs.Ytahdaccmokjgpaa
open Go.RowKit ArgK
set_option linter.unusedVariables false

/-- A readable list of entries that lies below block B. -/
def EL (w : World) (B : Nat) (p : Option Addr) (L : List Ent) : Prop := ∀ i x, L[i]? = some x → ∃ a : Addr, p = some a ∧ a.block < B ∧ Five w (a.add (i * 5)) x

theorem add_blockE (a : Addr) (i : Nat) : (a.add i).block = a.block := by unfold Addr.add; split <;> rfl

theorem EL.below {w w' : World} {B B' : Nat} {p : Option Addr} {L : List Ent} (h : EL w B p L) (hb : Below B' w w') (hB : B ≤ B') : EL w' B p L := by
  intro i x hx
  obtain ⟨a, rfl, ha, h5⟩ := h i x hx
  exact ⟨a, rfl, ha, h5.below hb (by rw [add_blockE]; omega)⟩

theorem EL.mono {w : World} {B B' : Nat} {p : Option Addr} {L : List Ent} (h : EL w B p L) (hB : B ≤ B') : EL w B' p L := by
  intro i x hx
  obtain ⟨a, rfl, ha, h5⟩ := h i x hx
  exact ⟨a, rfl, by omega, h5⟩

theorem cell_add_ne {W : World} {a : Addr} (b : Nat) (u : Value) (k : Nat) (h : a.block ≠ b) : (W.setCell ⟨b, k, none⟩ u).cell? a = W.cell? a :=
  World.cell?_of_block (Below.heap_setCell W ⟨b, k, none⟩ u a.block h)

theorem EL.tail {w : World} {B : Nat} {p : Addr} {x : Ent} {L : List Ent} (h : EL w B (some p) (x :: L)) : EL w B (some (p.add 5)) L := by
  intro i y hy
  obtain ⟨a, e, ha, h5⟩ := h (i + 1) y (by simpa using hy)
  cases e
  refine ⟨p.add 5, rfl, by rw [add_blockE]; exact ha, ?_⟩
  have : (p.add 5).add (i * 5) = p.add ((i + 1) * 5) := by
    unfold Addr.add
    by_cases h0 : i = 0
    · subst h0; simp
    · rw [if_neg (by omega), if_neg (by omega), if_neg (by omega)]
      simp only [Addr.mk.injEq, and_true, true_and]
      omega
  rw [this]
  exact h5

theorem EL.nil {w : World} {B : Nat} {p : Option Addr} : EL w B p [] := fun i x hx => by simp at hx


theorem far5 (W : World) {g b : Nat} (h : b ≠ g) (u0 u1 u2 u3 u4 : Value) : (((((W.setCell ⟨g, 0, none⟩ u0).setCell ⟨g, 1, none⟩ u1).setCell ⟨g, 2, none⟩ u2).setCell ⟨g, 3, none⟩ u3).setCell ⟨g, 4, none⟩ u4).heap[b]? = W.heap[b]? := by
  rw [Below.heap_setCell _ _ _ _ h, Below.heap_setCell _ _ _ _ h, Below.heap_setCell _ _ _ _ h, Below.heap_setCell _ _ _ _ h, Below.heap_setCell _ _ _ _ h]

theorem Fr.set5 {a W : World} {S : List (Option Nat)} (h : Fr a W S) {g : Nat} (hp : g < a.heap.size → some g ∈ S) (u0 u1 u2 u3 u4 : Value) : Fr a (((((W.setCell ⟨g, 0, none⟩ u0).setCell ⟨g, 1, none⟩ u1).setCell ⟨g, 2, none⟩ u2).setCell ⟨g, 3, none⟩ u3).setCell ⟨g, 4, none⟩ u4) S :=
  ((((h.setCell (p := ⟨g, _, none⟩) hp _).setCell (p := ⟨g, _, none⟩) hp _).setCell (p := ⟨g, _, none⟩) hp _).setCell (p := ⟨g, _, none⟩) hp _).setCell (p := ⟨g, _, none⟩) hp _

/-- The cell of a source of a list. -/
def LstIs (w : World) (B b : Nat) (L : List Ent) : Prop :=
  ∃ p c, w.heap[b]? = some (.cells #[.slice p L.length c] 25 (0, 0)) ∧ L.length ≤ c ∧ EL w B p L

set_option maxRecDepth 100000 in
set_option maxHeartbeats 1000000 in
theorem of_end {w : World} {B b : Nat} (h : LstIs w B b []) :
    Calls Try.prog 52 #[.pointer (some ⟨b, 0, none⟩)] w fun e w' => e = .returned (.tuple #[zeroE.val, .bool false, .int .i64 0]) ∧ Below w.heap.size w w' := by
  obtain ⟨p, c, hb, hc, hE⟩ := h
  have hl : b < w.heap.size := (Array.getElem?_eq_some_iff.1 hb).1
  have c0 : w.cell? ⟨b, 0, none⟩ = some (.slice p 0 c) := by simp [World.cell?, hb]
  have hbu : ∀ W : World, (Instr.build 24 #[]).run Try.prog W = .ok (.agg #[.int .i64 0, .string ⟨#[]⟩, .int .i64 0, .int .i64 0, .bool false]) W := fun W => run_build W _ _ _ (by kernel_rfl)
  clear hb hE
  unfold zeroE Ent.val
  go_enter Try.func52, Try.ntmps52
  go_wp2
  refine bodyPost_ret (v := .tuple #[.agg #[.int .i64 0, .string ⟨#[]⟩, .int .i64 0, .int .i64 0, .bool false], .bool false, .int .i64 0]) ?_ rfl ⟨rfl, (Below.refl _ w).alloc (Nat.le_refl _) _⟩
  rw [results_cell_tmp2 rfl]
  go_simp

set_option maxRecDepth 100000 in
set_option maxHeartbeats 1000000 in
theorem of_more {w : World} {B b : Nat} {x : Ent} {L : List Ent} (h : LstIs w B b (x :: L)) (hB : B ≤ b) (hn : L.length ≤ 4398046511104) :
    Calls Try.prog 52 #[.pointer (some ⟨b, 0, none⟩)] w fun e w' => e = .returned (.tuple #[x.val, .bool true, .int .i64 0]) ∧ LstIs w' B b L ∧ Fr w w' [some b] := by
  obtain ⟨p, c, hb, hc, hE⟩ := h
  have hl : b < w.heap.size := (Array.getElem?_eq_some_iff.1 hb).1
  obtain ⟨a, rfl, haB, h5⟩ := hE 0 x rfl
  have c0 : w.cell? ⟨b, 0, none⟩ = some (.slice (some a) (L.length + 1) c) := by simp [World.cell?, hb]
  have c1 : w.frozen? ⟨b, 0, none⟩ = false := by simp [World.frozen?, hb]
  have e0 : a.add (0 * 5) = a := by unfold Addr.add; simp
  rw [e0] at h5
  have hab : a.block ≠ b := by omega
  have HS : ∀ p' c' W, EL w B p' L → L.length ≤ c' → W.heap[b]? = some (.cells #[.slice p' L.length c'] 25 (0, 0)) → Fr w W [some b] → LstIs W B b L ∧ Fr w W [some b] := fun p' c' W hE' hc' hW hF => ⟨⟨p', c', hW, hc', fun i y hy => by
    obtain ⟨a', e, ha', h5'⟩ := hE' i y hy
    refine ⟨a', e, ha', ?_⟩
    have hbk : ∀ o, W.cell? ⟨(a'.add (i * 5)).block, o, none⟩ = w.cell? ⟨(a'.add (i * 5)).block, o, none⟩ := fun o => World.cell?_of_block (hF.2.2.2.2 _ h5'.lt (by rw [add_blockE]; simp; omega))
    have hbk0 : W.cell? (a'.add (i * 5)) = w.cell? (a'.add (i * 5)) := World.cell?_of_block (hF.2.2.2.2 _ h5'.lt (by rw [add_blockE]; simp; omega))
    exact ⟨hbk0.trans h5'.1, (hbk _).trans h5'.2.1, (hbk _).trans h5'.2.2.1, (hbk _).trans h5'.2.2.2.1, (hbk _).trans h5'.2.2.2.2⟩⟩, hF⟩
  have hcl : L.length + 1 ≤ c := hc
  have hET := hE.tail
  have HS := Lib.hid HS
  have hbx : ∀ (W : World) (u : Value), W.heap[b]? = w.heap[b]? → (W.setCell ⟨b, 0, none⟩ u).heap[b]? = some (.cells #[u] 25 (0, 0)) := fun W u e => by
    rw [hb] at e
    simp [World.setCell, Array.getElem?_modify, e]
  have HBX := Lib.hid hbx
  obtain ⟨y0, y1, y2, y3, y4⟩ := h5
  have z0 := cell_lt y0
  unfold Ent.val
  have hfr : ∀ o1 o2 u, Fr w (((w.alloc o1).alloc o2).setCell ⟨b, 0, none⟩ u) [some b] := fun o1 o2 u => (((Fr.refl w _).alloc o1).alloc o2).setCell (p := ⟨b, 0, none⟩) (fun _ => by simp) u
  have n1 : ¬ (w.heap.size + 1 = b) := by omega
  have n2 : ¬ (b = w.heap.size + 1) := by omega
  have n3 : ¬ (w.heap.size = b) := by omega
  have n4 : ¬ (b = w.heap.size) := by omega
  obtain ⟨n, hln⟩ : ∃ n, L.length = n := ⟨_, rfl⟩
  have HLN := Lib.hid hln
  rw [hln] at c0 hcl hn
  by_cases hc1 : c = 1
  · obtain rfl : n = 0 := by omega
    simp only [Nat.zero_add] at c0
    have c0b : ∀ o1 o2, ((w.alloc o1).alloc o2).cell? ⟨b, 0, none⟩ = some (.slice (some a) 1 c) := fun o1 o2 => (World.cell?_alloc_lt _ _ ⟨b, 0, none⟩ (by simp; omega)).trans ((World.cell?_alloc_lt _ _ ⟨b, 0, none⟩ hl).trans c0)
    have hL : L = [] := List.eq_nil_of_length_eq_zero (by omega)
    subst hL hc1
    have c1b : ∀ o1 o2, ((w.alloc o1).alloc o2).frozen? ⟨b, 0, none⟩ = false := fun o1 o2 => by
      have e := (Below.heap_alloc (w.alloc o1) o2 b (by simp; omega)).trans (Below.heap_alloc w o1 b hl)
      simp only [World.frozen?, e] at c1 ⊢
      exact c1
    clear hE hET hc hb hbx hln hcl hn
    go_enter Try.func52, Try.ntmps52
    go_wp2
    have z5 := hl
    refine bodyPost_ret (v := .tuple #[.agg #[.int .i64 x.v, .string x.c, .int .i64 x.i, .int .i64 x.s, .bool x.d], .bool true, .int .i64 0]) ?_ rfl ⟨rfl, HS.out (some a) 0 _ EL.nil (by simp) ?_ ((hfr _ _ _).set5 (fun h => absurd h (Nat.lt_irrefl _)) _ _ _ _ _)⟩
    · rw [results_cell_tmp2 rfl]
      go_simp
    · rw [far5 _ n4, HBX.out _ _ ((Below.heap_alloc _ _ _ (by simp; omega)).trans (Below.heap_alloc _ _ _ hl))]
      rfl
  · have hc2 : ¬ (c ≤ 1) := by omega
    have e5 : a.add 5 = ⟨a.block, a.off + 5, none⟩ := by unfold Addr.add; simp
    have c0b : ∀ o1 o2, ((w.alloc o1).alloc o2).cell? ⟨b, 0, none⟩ = some (.slice (some a) (n + 1) c) := fun o1 o2 => (World.cell?_alloc_lt _ _ ⟨b, 0, none⟩ (by simp; omega)).trans ((World.cell?_alloc_lt _ _ ⟨b, 0, none⟩ hl).trans c0)
    have c1b : ∀ o1 o2, ((w.alloc o1).alloc o2).frozen? ⟨b, 0, none⟩ = false := fun o1 o2 => by
      have e := (Below.heap_alloc (w.alloc o1) o2 b (by simp; omega)).trans (Below.heap_alloc w o1 b hl)
      simp only [World.frozen?, e] at c1 ⊢
      exact c1
    clear hE hc hb hbx
    go_enter Try.func52, Try.ntmps52
    go_wp2
    have z5 := hl
    refine bodyPost_ret (v := .tuple #[.agg #[.int .i64 x.v, .string x.c, .int .i64 x.i, .int .i64 x.s, .bool x.d], .bool true, .int .i64 0]) ?_ rfl ⟨rfl, HS.out (some ⟨a.block, a.off + 5, none⟩) (c - 1) _ (by rw [← e5]; exact hET) (by rw [HLN.out]; omega) ?_ ((hfr _ _ _).set5 (fun h => absurd h (Nat.lt_irrefl _)) _ _ _ _ _)⟩
    · rw [results_cell_tmp2 rfl]
      go_simp
    · rw [far5 _ n4, HBX.out _ _ ((Below.heap_alloc _ _ _ (by simp; omega)).trans (Below.heap_alloc _ _ _ hl))]
      rw [HLN.out]
end Go.Proofs.Ytahdaccmokjgpaa

/-
  WALK: a file's head read (readHead).
-/
import Derived.Test.YtihgjihdmlomaaaDoorJBrA
import Derived.Laws.ResultCell
namespace Go.Proofs.YtihgjihdmlomaaaDoor
open Go.RowKit ArgK
set_option linter.unusedVariables false

/-- The first k numbers of a head. -/
def headK (b : List UInt8) : Nat → Option Nat × List Nat
  | 0 => (some 0, [])
  | k + 1 => ((numS b 1152921504606846976 (headK b k).1).1, (headK b k).2 ++ [(numS b 1152921504606846976 (headK b k).1).2])
theorem headK_length (b : List UInt8) : ∀ k, (headK b k).2.length = k
  | 0 => rfl
  | k + 1 => by simp [headK, headK_length b k]
def hdOf (l : List Nat) : Hd := ⟨l.getD 0 0, l.getD 1 0, l.getD 2 0, l.getD 3 0, l.getD 4 0, l.getD 5 0⟩
/-- The head that a payload is. -/
def headP (b : List UInt8) : Option Hd :=
  if (headK b 6).1 = some b.length ∧ headedR (hdOf (headK b 6).2) = 0 ∧ (hdOf (headK b 6).2).n ≤ 2097152 then some (hdOf (headK b 6).2) else none

def arr6 (l : List Nat) : Array Value := ((l ++ List.replicate (6 - l.length) 0).map (fun n : Nat => Value.int .i64 (n : Int))).toArray

theorem arr6_size {l : List Nat} (h : l.length ≤ 6) : (arr6 l).size = 6 := by
  unfold arr6
  simp
  omega
theorem arr6_snoc {l : List Nat} (h : l.length < 6) (v : Nat) : (arr6 l).setIfInBounds l.length (.int .i64 (v : Int)) = arr6 (l ++ [v]) := by
  unfold arr6
  rw [← Array.toList_inj]
  simp only [List.setIfInBounds_toArray, List.map_append, List.map_replicate]
  rw [List.set_append_right _ _ (by simp), List.length_map, Nat.sub_self]
  obtain ⟨q, hq⟩ : ∃ q, 6 - l.length = q + 1 := ⟨5 - l.length, by omega⟩
  rw [hq, List.length_append, List.length_singleton, show 6 - (l.length + 1) = q by omega, List.replicate_succ, List.set_cons_zero]
  simp

theorem arr_cell {w : World} {g k : Nat} {A : Array Value} {T : TypeId} {v : Value} (h : w.heap[g]? = some (.cells A T (0, 0))) (hv : A[k]? = some v) : w.cell? ⟨g, k, none⟩ = some v ∧ w.frozen? ⟨g, k, none⟩ = false := by
  simp [World.cell?, World.frozen?, h, hv]
theorem arr_set {w : World} {g k : Nat} {A : Array Value} {T : TypeId} (h : w.heap[g]? = some (.cells A T (0, 0))) (v : Value) : (w.setCell ⟨g, k, none⟩ v).heap[g]? = some (.cells (A.setIfInBounds k v) T (0, 0)) := by
  simp [World.setCell, Array.getElem?_modify, h]
theorem arr6_zero {l : List Nat} (h : l.length < 6) : (arr6 l)[l.length]? = some (.int .i64 0) := by
  unfold arr6
  rw [List.getElem?_toArray, List.getElem?_map, List.getElem?_append_right (Nat.le_refl _), Nat.sub_self, List.getElem?_replicate, if_pos (by omega)]
  rfl

theorem frz6 {W : World} {g : Nat} {A : Array Value} {T : TypeId} (h : W.heap[g]? = some (.cells A T (0, 0))) : W.frozen? ⟨g, 0, none⟩ = false ∧ W.frozen? ⟨g, 1, none⟩ = false ∧ W.frozen? ⟨g, 2, none⟩ = false ∧ W.frozen? ⟨g, 3, none⟩ = false ∧ W.frozen? ⟨g, 4, none⟩ = false ∧ W.frozen? ⟨g, 5, none⟩ = false := by
  simp [World.frozen?, h]

theorem far6 {W : World} {g k : Nat} (h : k ≠ g) (v0 v1 v2 v3 v4 v5 : Value) : ((((((W.setCell ⟨g, 0, none⟩ v0).setCell ⟨g, 1, none⟩ v1).setCell ⟨g, 2, none⟩ v2).setCell ⟨g, 3, none⟩ v3).setCell ⟨g, 4, none⟩ v4).setCell ⟨g, 5, none⟩ v5).heap[k]? = W.heap[k]? := by
  rw [Below.heap_setCell _ _ _ k h, Below.heap_setCell _ _ _ k h, Below.heap_setCell _ _ _ k h, Below.heap_setCell _ _ _ k h, Below.heap_setCell _ _ _ k h, Below.heap_setCell _ _ _ k h]
theorem heap_drewX (w : World) : w.drew.heap = w.heap := rfl
theorem heap_drewNX (w : World) (n : Nat) : (w.drewN n).heap = w.heap := rfl
theorem far6d {W : World} {g k : Nat} (h : k ≠ g) (v0 v1 v2 v3 v4 v5 : Value) : (((((((W.setCell ⟨g, 0, none⟩ v0).setCell ⟨g, 1, none⟩ v1).setCell ⟨g, 2, none⟩ v2).setCell ⟨g, 3, none⟩ v3).setCell ⟨g, 4, none⟩ v4).setCell ⟨g, 5, none⟩ v5).drew).heap[k]? = W.heap[k]? := by rw [heap_drewX]; exact far6 h v0 v1 v2 v3 v4 v5
theorem far6dn {W : World} {m g k : Nat} (h : k ≠ g) (v0 v1 v2 v3 v4 v5 : Value) : ((((((((W.setCell ⟨g, 0, none⟩ v0).setCell ⟨g, 1, none⟩ v1).setCell ⟨g, 2, none⟩ v2).setCell ⟨g, 3, none⟩ v3).setCell ⟨g, 4, none⟩ v4).setCell ⟨g, 5, none⟩ v5).drew).drewN m).heap[k]? = W.heap[k]? := by rw [heap_drewNX, heap_drewX]; exact far6 h v0 v1 v2 v3 v4 v5
theorem below_six {B : Nat} {a W : World} (h : Below B a W) {g : Nat} (hg : B ≤ g) (v0 v1 v2 v3 v4 v5 : Value) : Below B a ((((((W.setCell ⟨g, 0, none⟩ v0).setCell ⟨g, 1, none⟩ v1).setCell ⟨g, 2, none⟩ v2).setCell ⟨g, 3, none⟩ v3).setCell ⟨g, 4, none⟩ v4).setCell ⟨g, 5, none⟩ v5) :=
  (((((h.setCell (p := ⟨g, 0, none⟩) hg v0).setCell (p := ⟨g, 1, none⟩) hg v1).setCell (p := ⟨g, 2, none⟩) hg v2).setCell (p := ⟨g, 3, none⟩) hg v3).setCell (p := ⟨g, 4, none⟩) hg v4).setCell (p := ⟨g, 5, none⟩) hg v5
theorem keepS {W X : World} {Q r : Nat} {v0 v1 v2 v3 v4 v5 u : Value} (h : X.heap[Q]? = W.heap[Q]?) (h' : X.heap[r]? = W.heap[r]?)
    (hS : W.cell? ⟨Q, 0, none⟩ = some v0 ∧ W.cell? ⟨Q, 1, none⟩ = some v1 ∧ W.cell? ⟨Q, 2, none⟩ = some v2 ∧ W.cell? ⟨Q, 3, none⟩ = some v3 ∧ W.cell? ⟨Q, 4, none⟩ = some v4 ∧ W.cell? ⟨Q, 5, none⟩ = some v5 ∧ W.cell? ⟨r, 2, none⟩ = some u) :
    X.cell? ⟨Q, 0, none⟩ = some v0 ∧ X.cell? ⟨Q, 1, none⟩ = some v1 ∧ X.cell? ⟨Q, 2, none⟩ = some v2 ∧ X.cell? ⟨Q, 3, none⟩ = some v3 ∧ X.cell? ⟨Q, 4, none⟩ = some v4 ∧ X.cell? ⟨Q, 5, none⟩ = some v5 ∧ X.cell? ⟨r, 2, none⟩ = some u :=
  ⟨(World.cell?_of_block (a := ⟨Q, 0, none⟩) h).trans hS.1, (World.cell?_of_block (a := ⟨Q, 1, none⟩) h).trans hS.2.1, (World.cell?_of_block (a := ⟨Q, 2, none⟩) h).trans hS.2.2.1, (World.cell?_of_block (a := ⟨Q, 3, none⟩) h).trans hS.2.2.2.1, (World.cell?_of_block (a := ⟨Q, 4, none⟩) h).trans hS.2.2.2.2.1, (World.cell?_of_block (a := ⟨Q, 5, none⟩) h).trans hS.2.2.2.2.2.1, (World.cell?_of_block (a := ⟨r, 2, none⟩) h').trans hS.2.2.2.2.2.2⟩
theorem below_dn {a b : World} (n : Nat) (h : Below (a.drew.drewN n).heap.size (a.drew.drewN n) b) : Below a.heap.size a b := ⟨h.os, h.tape, h.output, h.size, h.block⟩

/-- At the head of each round. -/
def RhRel (w : World) (b : ByteArray) (k : Nat) (wr : World) : Prop :=
  k ≤ 6 ∧ Rk wr (w.heap.size + 1) b (headK b.data.toList k).1 ∧ wr.heap[w.heap.size + 1 + 1]? = some (.cells (arr6 (headK b.data.toList k).2) 123 (0, 0)) ∧ wr.heap[w.heap.size]? = some (.cells #[.int .i64 0, .int .i64 0, .int .i64 0, .int .i64 0, .int .i64 0, .int .i64 0] 23 (0, 0)) ∧ Below w.heap.size w wr

def ReadHeadPost (w : World) (b : List UInt8) (e : Ending) (w' : World) : Prop :=
  e = .returned (.tuple #[(hdOf (headK b 6).2).val, .bool (headP b).isSome]) ∧ Below w.heap.size w w'

set_option maxRecDepth 100000 in
set_option maxHeartbeats 2000000 in
theorem readHead_calls (b : ByteArray) (hb : b.size ≤ 4611686018427387904) (w : World) :
    Calls Tryd.prog 45 #[.string b] w (ReadHeadPost w b.data.toList) := by
  have hbu : ∀ W : World, (Instr.build 122 #[(0, .string b)]).run Tryd.prog W = .ok (.agg #[.string b, .int .i64 0, .bool false]) W := fun W => run_build W _ _ _ (by kernel_rfl)
  have H0 : Hid (RhRel w b 0 (((w.alloc (.cells #[.int .i64 0, .int .i64 0, .int .i64 0, .int .i64 0, .int .i64 0, .int .i64 0] 23)).alloc (.cells #[.string b, .int .i64 0, .bool false] 122)).alloc (.cells #[.int .i64 0, .int .i64 0, .int .i64 0, .int .i64 0, .int .i64 0, .int .i64 0] 123))) := Lib.hid (by
    have h1 := World.alloc_heap_new w (.cells #[.int .i64 0, .int .i64 0, .int .i64 0, .int .i64 0, .int .i64 0, .int .i64 0] 23)
    have h2 := World.alloc_heap_new (w.alloc (.cells #[.int .i64 0, .int .i64 0, .int .i64 0, .int .i64 0, .int .i64 0, .int .i64 0] 23)) (.cells #[.string b, .int .i64 0, .bool false] 122)
    have h3 := World.alloc_heap_new ((w.alloc (.cells #[.int .i64 0, .int .i64 0, .int .i64 0, .int .i64 0, .int .i64 0, .int .i64 0] 23)).alloc (.cells #[.string b, .int .i64 0, .bool false] 122)) (.cells #[.int .i64 0, .int .i64 0, .int .i64 0, .int .i64 0, .int .i64 0, .int .i64 0] 123)
    rw [World.size_alloc] at h2
    rw [World.size_alloc, World.size_alloc] at h3
    refine ⟨by omega, ⟨0, Nat.zero_le _, ?_, fun x e => by cases e; rfl⟩, h3, ?_, (((Below.refl _ w).alloc (Nat.le_refl _) _).alloc (by simp) _).alloc (by simp <;> omega) _⟩
    · exact (Below.heap_alloc _ _ _ (by simp)).trans h2
    · exact (Below.heap_alloc _ _ _ (by simp <;> omega)).trans ((Below.heap_alloc _ _ _ (by simp)).trans h1))
  have CN := fun k W (h : Rk W (w.heap.size + 1) b (headK b.data.toList k).1) => rnumber_calls 1152921504606846976 (by decide) (w.heap.size + 1) b hb _ W h
  have HCN := Lib.hid CN
  clear CN
  go_enter Tryd.func45, Tryd.ntmps45
  go_wp2
  go_loopw [11] (fun i wr => ∃ k : Nat, i = .int .i64 k ∧ RhRel w b k wr) (fun i _ => 6 - (intOf i).toNat)
  case atStart => exact ⟨0, rfl, H0.out⟩
  case round =>
    obtain ⟨k, rfl, hk, hrk, harr, hz, hbl⟩ := hrel
    obtain ⟨l, hl⟩ : ∃ l, (headK b.data.toList k).2 = l := ⟨_, rfl⟩
    have hll : l.length = k := by rw [← hl]; exact headK_length _ k
    by_cases hlt : k < 6
    · have C := HCN.out k wr hrk
      have hnx : headK b.data.toList (k + 1) = ((numS b.data.toList 1152921504606846976 (headK b.data.toList k).1).1, (headK b.data.toList k).2 ++ [(numS b.data.toList 1152921504606846976 (headK b.data.toList k).1).2]) := rfl
      obtain ⟨q1, q2, hq⟩ : ∃ q1 q2, numS b.data.toList 1152921504606846976 (headK b.data.toList k).1 = (q1, q2) := ⟨_, _, rfl⟩
      rw [hq] at C hnx
      rw [hl] at hnx harr
      have HC := Lib.hid C
      have HNX := Lib.hid hnx
      have i0' : (0 : Int) ≤ (k : Int) := by omega
      have i1' : (k : Int) < 6 := by omega
      have HArr := Lib.hid harr
      have HZ := Lib.hid hz
      have HBl := Lib.hid hbl
      have hslt := hrk.lt
      clear C hq hnx harr hz hbl hrk hl
      go_wp2_with fail
      refine HC.out.mono ?_
      rintro e w1 ⟨rfl, hr1, hg1⟩
      have harr1 := (hg1.block (w.heap.size + 1 + 1) (Array.getElem?_eq_some_iff.1 HArr.out).1 (by simp)).trans HArr.out
      have hz1 := (hg1.block w.heap.size (Array.getElem?_eq_some_iff.1 HZ.out).1 (by simp)).trans HZ.out
      have hbl1 := HBl.out.grown hg1 HBl.out.size (fun b hb => by cases hb; omega)
      have hc := arr_cell harr1 (k := k) (by have := arr6_zero (l := l) (by omega); rw [hll] at this; exact this)
      obtain ⟨hc1, hc2⟩ := hc
      have hset := arr_set harr1 (k := k) (.int .i64 (q2 : Int))
      rw [← hll, arr6_snoc (by omega), hll] at hset
      have hne1 : w.heap.size + 1 ≠ w.heap.size + 1 + 1 := by omega
      have hne2 : w.heap.size ≠ w.heap.size + 1 + 1 := by omega
      have HR : Hid (RhRel w b (k + 1) (w1.setCell ⟨w.heap.size + 1 + 1, k, none⟩ (.int .i64 (q2 : Int)))) := Lib.hid (by
        refine ⟨by omega, ?_, ?_, (Below.heap_setCell w1 ⟨w.heap.size + 1 + 1, k, none⟩ (.int .i64 (q2 : Int)) w.heap.size hne2).trans hz1, hbl1.setCell (p := ⟨w.heap.size + 1 + 1, k, none⟩) (by show w.heap.size ≤ w.heap.size + 1 + 1; omega) _⟩
        · rw [HNX.out]
          exact hr1.keep (Below.heap_setCell w1 ⟨w.heap.size + 1 + 1, k, none⟩ (.int .i64 (q2 : Int)) (w.heap.size + 1) hne1)
        · rw [HNX.out]
          exact hset)
      clear hr1 hg1 harr1 hz1 hbl1 hset
      go_wp2
      go_roundw
      case rel => exact ⟨k + 1, by go_num, HR.out⟩
      case measure => simp [intOf]; omega
    · obtain rfl : k = 6 := by omega
      match l, hll, hl with
      | [n0, n1, n2, n3, n4, n5], _, hl =>
        rw [hl] at harr
        obtain ⟨a0, _⟩ := arr_cell harr (k := 0) (v := .int .i64 (n0 : Int)) rfl
        obtain ⟨a1, _⟩ := arr_cell harr (k := 1) (v := .int .i64 (n1 : Int)) rfl
        obtain ⟨a2, _⟩ := arr_cell harr (k := 2) (v := .int .i64 (n2 : Int)) rfl
        obtain ⟨a3, _⟩ := arr_cell harr (k := 3) (v := .int .i64 (n3 : Int)) rfl
        obtain ⟨a4, _⟩ := arr_cell harr (k := 4) (v := .int .i64 (n4 : Int)) rfl
        obtain ⟨a5, _⟩ := arr_cell harr (k := 5) (v := .int .i64 (n5 : Int)) rfl
        have HL := Lib.hid hl
        have HBl := Lib.hid hbl
        have HRk := Lib.hid hrk
        have HZ := Lib.hid hz
        have hsz := (Array.getElem?_eq_some_iff.1 harr).1
        clear harr hz hbl hrk hl
        go_wp2
        have hq := World.alloc_heap_new wr (.cells #[.int .i64 n0, .int .i64 n1, .int .i64 n2, .int .i64 n3, .int .i64 n4, .int .i64 n5] 23)
        have hz9 := (Below.heap_alloc wr (.cells #[.int .i64 n0, .int .i64 n1, .int .i64 n2, .int .i64 n3, .int .i64 n4, .int .i64 n5] 23) w.heap.size (by omega)).trans HZ.out
        have hrk9 := HRk.out.keep (Below.heap_alloc wr (.cells #[.int .i64 n0, .int .i64 n1, .int .i64 n2, .int .i64 n3, .int .i64 n4, .int .i64 n5] 23) (w.heap.size + 1) (by omega))
        have hbl9 := HBl.out.alloc (by omega) (.cells #[.int .i64 n0, .int .i64 n1, .int .i64 n2, .int .i64 n3, .int .i64 n4, .int .i64 n5] 23)
        have hsz9 : wr.heap.size < (wr.alloc (.cells #[.int .i64 n0, .int .i64 n1, .int .i64 n2, .int .i64 n3, .int .i64 n4, .int .i64 n5] 23)).heap.size := by simp
        generalize wr.alloc (.cells #[.int .i64 n0, .int .i64 n1, .int .i64 n2, .int .i64 n3, .int .i64 n4, .int .i64 n5] 23) = w9 at hq hz9 hrk9 hbl9 hsz9 ⊢
        obtain ⟨Q, hQ⟩ : ∃ Q, wr.heap.size = Q := ⟨_, rfl⟩
        rw [hQ] at hq hsz hsz9 ⊢
        clear a0 a1 a2 a3 a4 a5
        obtain ⟨q0, q1, q2, q3, q4, q5⟩ := cells6 hq
        obtain ⟨z0, z1, z2, z3, z4, z5⟩ := cells6 hz9
        obtain ⟨g0, g1, g2, g3, g4, g5⟩ := frz6 hz9
        have hqk : ∀ W, Below w9.heap.size w9 W → W.heap[Q]? = w9.heap[Q]? := fun W hW => hW.block Q hsz9
        have HQk := Lib.hid hqk
        have HQ9 := Lib.hid hq
        have HZk : Hid (∀ W, Below w9.heap.size w9 W → W.heap[w.heap.size]? = some (.cells #[.int .i64 0, .int .i64 0, .int .i64 0, .int .i64 0, .int .i64 0, .int .i64 0] 23 (0, 0))) := Lib.hid (fun W hW => (hW.block _ (Array.getElem?_eq_some_iff.1 hz9).1).trans hz9)
        have HLf := Lib.hid (fun W (h : Rk W (w.heap.size + 1) b (headK b.data.toList 6).1) => rleft_calls (w.heap.size + 1) b hb _ W h)
        have HHd := Lib.hid (fun W => headed_calls ⟨(n0 : Int), n1, n2, n3, n4, n5⟩ W)
        unfold Hd.val at HHd
        simp only at HHd
        have HRk9 := Lib.hid hrk9
        have HBl9 := Lib.hid hbl9
        have HEND : Hid (∀ (d : Bool) W, (headP b.data.toList).isSome = d → Below w.heap.size w W → ReadHeadPost w b.data.toList (.returned (.tuple #[.agg #[.int .i64 n0, .int .i64 n1, .int .i64 n2, .int .i64 n3, .int .i64 n4, .int .i64 n5], .bool d])) W) := Lib.hid (fun d W hd hW => ⟨by rw [HL.out, hd]; rfl, hW⟩)
        have HWS : Hid (w.heap.size < w9.heap.size) := Lib.hid (Array.getElem?_eq_some_iff.1 hz9).1
        have hQw : Q ≠ w.heap.size := by omega
        have hQw2 : w.heap.size ≠ Q := by omega
        have hw12 : w.heap.size + 1 ≠ w.heap.size := by omega
        have HKeep : Hid (∀ W, Below w9.heap.size w9 W → W.cell? ⟨Q, 0, none⟩ = some (.int .i64 n0) ∧ W.cell? ⟨Q, 1, none⟩ = some (.int .i64 n1) ∧ W.cell? ⟨Q, 2, none⟩ = some (.int .i64 n2) ∧ W.cell? ⟨Q, 3, none⟩ = some (.int .i64 n3) ∧ W.cell? ⟨Q, 4, none⟩ = some (.int .i64 n4) ∧ W.cell? ⟨Q, 5, none⟩ = some (.int .i64 n5) ∧ W.cell? ⟨w.heap.size + 1, 2, none⟩ = some (.bool (headK b.data.toList 6).1.isNone)) := Lib.hid (fun W hW => by
          obtain ⟨k0, k1, k2, k3, k4, k5⟩ := cells6 ((hqk W hW).trans hq)
          obtain ⟨_, _, hc6, _⟩ := HRk9.out.keep (hW.block _ HRk9.out.lt)
          exact ⟨k0, k1, k2, k3, k4, k5, (rk_cells hc6).2.2.1⟩)
        clear hqk hq hz9 hbl9 HZ HRk HBl hQ
        obtain ⟨a6, ha6, hc6, hs6⟩ := hrk9
        obtain ⟨_, _, cb, _, _⟩ := rk_cells hc6
        rcases hs : (headK b.data.toList 6).1 with _ | a
        · have hN : headP b.data.toList = none := by unfold headP; rw [hs]; simp
          have HIS : Hid ((headP b.data.toList).isSome = false) := Lib.hid (by rw [hN]; rfl)
          rw [hs] at cb
          clear hN hs hs6 hc6
          simp only [Option.isNone_none] at cb
          refine wp_region_held_drew (S := (fun W => W.cell? ⟨Q, 0, none⟩ = some (.int .i64 n0) ∧ W.cell? ⟨Q, 1, none⟩ = some (.int .i64 n1) ∧ W.cell? ⟨Q, 2, none⟩ = some (.int .i64 n2) ∧ W.cell? ⟨Q, 3, none⟩ = some (.int .i64 n3) ∧ W.cell? ⟨Q, 4, none⟩ = some (.int .i64 n4) ∧ W.cell? ⟨Q, 5, none⟩ = some (.int .i64 n5) ∧ W.cell? ⟨w.heap.size + 1, 2, none⟩ = some (.bool true))) (by kernel_rfl) ?_ (fun hHeld => ?_)
          · exact ⟨q0, q1, q2, q3, q4, q5, cb⟩
          refine wpAnyH_take (i := 0) (oi := { dst := some 32, op := Op.load 23 (Operand.tmp 7), type := 23, pos := "file.go:61", after := #[], guard := none }) (v := ?_) rfl (by kernel_rfl) (by kernel_rfl) (by kernel_rfl) (fun _ _ _ h => h) (Or.inl ⟨by rfl, ?_⟩) (by assumption) ?_
          rotate_left 1
          · intro w hSw
            (try dsimp only at hSw)
            go_simp
            try with_reducible rfl
          (try simp only [Act.put, List.setIfInBounds_toArray, List.set_cons_zero, List.set_cons_succ])
          refine wpAnyH_take (i := 1) (oi := { dst := some 33, op := Op.move (Operand.tmp 4), type := 120, pos := "file.go:61", after := #[], guard := none }) (v := ?_) rfl (by kernel_rfl) (by kernel_rfl) (by kernel_rfl) (fun _ _ _ h => h) (Or.inl ⟨by rfl, ?_⟩) (by assumption) ?_
          rotate_left 1
          · intro w hSw
            (try dsimp only at hSw)
            go_simp
            try with_reducible rfl
          (try simp only [Act.put, List.setIfInBounds_toArray, List.set_cons_zero, List.set_cons_succ])
          refine wpAnyH_take (i := 2) (oi := { dst := some 34, op := Op.nilCheck (Operand.tmp 33), type := 0, pos := "file.go:61", after := #[{ on := 1, ground := Ground.data }], guard := none }) (v := ?_) rfl (by kernel_rfl) (by kernel_rfl) (by kernel_rfl) (fun _ _ _ h => h) (Or.inl ⟨by rfl, ?_⟩) (by assumption) ?_
          rotate_left 1
          · intro w hSw
            (try dsimp only at hSw)
            go_simp
            try with_reducible rfl
          (try simp only [Act.put, List.setIfInBounds_toArray, List.set_cons_zero, List.set_cons_succ])
          refine wpAnyH_take (i := 3) (oi := { dst := some 35, op := Op.fieldAddr 122 (Operand.tmp 34) 2, type := 0, pos := "file.go:61", after := #[{ on := 2, ground := Ground.data }], guard := none }) (v := ?_) rfl (by kernel_rfl) (by kernel_rfl) (by kernel_rfl) (fun _ _ _ h => h) (Or.inl ⟨by rfl, ?_⟩) (by assumption) ?_
          rotate_left 1
          · intro w hSw
            (try dsimp only at hSw)
            go_simp
            try with_reducible rfl
          (try simp only [Act.put, List.setIfInBounds_toArray, List.set_cons_zero, List.set_cons_succ])
          refine wpAnyH_take (i := 4) (oi := { dst := some 36, op := Op.load 4 (Operand.tmp 35), type := 4, pos := "file.go:61", after := #[{ on := 3, ground := Ground.data }], guard := none }) (v := ?_) rfl (by kernel_rfl) (by kernel_rfl) (by kernel_rfl) (fun _ _ _ h => h) (Or.inl ⟨by rfl, ?_⟩) (by assumption) ?_
          rotate_left 1
          · intro w hSw
            (try dsimp only at hSw)
            go_simp
            try with_reducible rfl
          (try simp only [Act.put, List.setIfInBounds_toArray, List.set_cons_zero, List.set_cons_succ])
          refine wpAnyH_take (i := 5) (oi := { dst := some 37, op := Op.unOp UnOp.not 4 (Operand.tmp 36), type := 4, pos := "file.go:61", after := #[{ on := 4, ground := Ground.data }], guard := none }) (v := ?_) rfl (by kernel_rfl) (by kernel_rfl) (by kernel_rfl) (fun _ _ _ h => h) (Or.inl ⟨by rfl, ?_⟩) (by assumption) ?_
          rotate_left 1
          · intro w hSw
            (try dsimp only at hSw)
            go_simp
            try with_reducible rfl
          (try simp only [Act.put, List.setIfInBounds_toArray, List.set_cons_zero, List.set_cons_succ])
          refine wpAnyH_take (i := 6) (oi := { dst := some 38, op := Op.move (Operand.tmp 37), type := 4, pos := "file.go:61", after := #[{ on := 5, ground := Ground.data }], guard := none }) (v := ?_) rfl (by kernel_rfl) (by kernel_rfl) (by kernel_rfl) (fun _ _ _ h => h) (Or.inl ⟨by rfl, ?_⟩) (by assumption) ?_
          rotate_left 1
          · intro w hSw
            (try dsimp only at hSw)
            go_simp
            try with_reducible rfl
          (try simp only [Act.put, List.setIfInBounds_toArray, List.set_cons_zero, List.set_cons_succ])
          refine wpAnyH_take (i := 7) (oi := { dst := some 39, op := Op.move (Operand.tmp 4), type := 120, pos := "file.go:61", after := #[{ on := 6, ground := Ground.guard }], guard := some (6, true) }) (v := undef) rfl (by kernel_rfl) (by kernel_rfl) (by kernel_rfl) (fun _ _ _ h => h) (Or.inr ⟨by rfl, rfl⟩) (by assumption) ?_
          (try simp only [Act.put, List.setIfInBounds_toArray, List.set_cons_zero, List.set_cons_succ])
          refine wpAnyH_take (i := 8) (oi := { dst := some 40, op := Op.call { callee := Callee.value (Operand.func 69), args := #[Operand.tmp 39], argTypes := #[120] }, type := 4, pos := "file.go:61", after := #[{ on := 7, ground := Ground.data }, { on := 6, ground := Ground.chain }, { on := 6, ground := Ground.guard }], guard := some (6, true) }) (v := undef) rfl (by kernel_rfl) (by kernel_rfl) (by kernel_rfl) (fun _ _ _ h => h) (Or.inr ⟨by rfl, rfl⟩) (by assumption) ?_
          (try simp only [Act.put, List.setIfInBounds_toArray, List.set_cons_zero, List.set_cons_succ])
          refine wpAnyH_take (i := 9) (oi := { dst := some 41, op := Op.unOp UnOp.not 4 (Operand.tmp 40), type := 4, pos := "file.go:61", after := #[{ on := 8, ground := Ground.data }, { on := 6, ground := Ground.guard }], guard := some (6, true) }) (v := undef) rfl (by kernel_rfl) (by kernel_rfl) (by kernel_rfl) (fun _ _ _ h => h) (Or.inr ⟨by rfl, rfl⟩) (by assumption) ?_
          (try simp only [Act.put, List.setIfInBounds_toArray, List.set_cons_zero, List.set_cons_succ])
          refine wpAnyH_take (i := 10) (oi := { dst := some 42, op := Op.pick (Operand.tmp 38) (Operand.tmp 41) (Operand.const (Value.bool false)), type := 4, pos := "file.go:61", after := #[{ on := 6, ground := Ground.data }, { on := 9, ground := Ground.data }], guard := none }) (v := ?_) rfl (by kernel_rfl) (by kernel_rfl) (by kernel_rfl) (fun _ _ _ h => h) (Or.inl ⟨by rfl, ?_⟩) (by assumption) ?_
          rotate_left 1
          · intro w hSw
            (try dsimp only at hSw)
            go_simp
            try with_reducible rfl
          (try simp only [Act.put, List.setIfInBounds_toArray, List.set_cons_zero, List.set_cons_succ])
          refine wpAnyH_take (i := 11) (oi := { dst := some 43, op := Op.move (Operand.tmp 42), type := 4, pos := "file.go:61", after := #[{ on := 10, ground := Ground.data }, { on := 8, ground := Ground.chain }], guard := none }) (v := ?_) rfl (by kernel_rfl) (by kernel_rfl) (by kernel_rfl) (fun _ _ _ h => h) (Or.inl ⟨by rfl, ?_⟩) (by assumption) ?_
          rotate_left 1
          · intro w hSw
            (try dsimp only at hSw)
            go_simp
            try with_reducible rfl
          (try simp only [Act.put, List.setIfInBounds_toArray, List.set_cons_zero, List.set_cons_succ])
          refine wpAnyH_take (i := 12) (oi := { dst := some 44, op := Op.load 23 (Operand.tmp 7), type := 23, pos := "file.go:61", after := #[{ on := 11, ground := Ground.guard }], guard := some (11, true) }) (v := undef) rfl (by kernel_rfl) (by kernel_rfl) (by kernel_rfl) (fun _ _ _ h => h) (Or.inr ⟨by rfl, rfl⟩) (by assumption) ?_
          (try simp only [Act.put, List.setIfInBounds_toArray, List.set_cons_zero, List.set_cons_succ])
          refine wpAnyH_take (i := 13) (oi := { dst := some 45, op := Op.call { callee := Callee.value (Operand.func 31), args := #[Operand.tmp 44], argTypes := #[23] }, type := 26, pos := "file.go:61", after := #[{ on := 12, ground := Ground.data }, { on := 11, ground := Ground.chain }, { on := 11, ground := Ground.guard }], guard := some (11, true) }) (v := undef) rfl (by kernel_rfl) (by kernel_rfl) (by kernel_rfl) (fun _ _ _ h => h) (Or.inr ⟨by rfl, rfl⟩) (by assumption) ?_
          (try simp only [Act.put, List.setIfInBounds_toArray, List.set_cons_zero, List.set_cons_succ])
          refine wpAnyH_take (i := 14) (oi := { dst := some 46, op := Op.binOp BinOp.eql 26 (Operand.tmp 45) (Operand.const (Value.int IntKind.i64 0)) 26, type := 4, pos := "file.go:61", after := #[{ on := 13, ground := Ground.data }, { on := 11, ground := Ground.guard }], guard := some (11, true) }) (v := undef) rfl (by kernel_rfl) (by kernel_rfl) (by kernel_rfl) (fun _ _ _ h => h) (Or.inr ⟨by rfl, rfl⟩) (by assumption) ?_
          (try simp only [Act.put, List.setIfInBounds_toArray, List.set_cons_zero, List.set_cons_succ])
          refine wpAnyH_take (i := 15) (oi := { dst := some 47, op := Op.pick (Operand.tmp 43) (Operand.tmp 46) (Operand.const (Value.bool false)), type := 4, pos := "file.go:61", after := #[{ on := 11, ground := Ground.data }, { on := 14, ground := Ground.data }], guard := none }) (v := ?_) rfl (by kernel_rfl) (by kernel_rfl) (by kernel_rfl) (fun _ _ _ h => h) (Or.inl ⟨by rfl, ?_⟩) (by assumption) ?_
          rotate_left 1
          · intro w hSw
            (try dsimp only at hSw)
            go_simp
            try with_reducible rfl
          (try simp only [Act.put, List.setIfInBounds_toArray, List.set_cons_zero, List.set_cons_succ])
          refine wpAnyH_take (i := 16) (oi := { dst := some 48, op := Op.move (Operand.tmp 47), type := 4, pos := "file.go:61", after := #[{ on := 15, ground := Ground.data }, { on := 13, ground := Ground.chain }], guard := none }) (v := ?_) rfl (by kernel_rfl) (by kernel_rfl) (by kernel_rfl) (fun _ _ _ h => h) (Or.inl ⟨by rfl, ?_⟩) (by assumption) ?_
          rotate_left 1
          · intro w hSw
            (try dsimp only at hSw)
            go_simp
            try with_reducible rfl
          (try simp only [Act.put, List.setIfInBounds_toArray, List.set_cons_zero, List.set_cons_succ])
          refine wpAnyH_take (i := 17) (oi := { dst := some 49, op := Op.fieldAddr 23 (Operand.tmp 7) 5, type := 0, pos := "file.go:61", after := #[{ on := 16, ground := Ground.guard }, { on := 21, ground := Ground.gcOnly Departure.lateStores }], guard := some (16, true) }) (v := undef) rfl (by kernel_rfl) (by kernel_rfl) (by kernel_rfl) (fun _ _ _ h => h) (Or.inr ⟨by rfl, rfl⟩) (by assumption) ?_
          (try simp only [Act.put, List.setIfInBounds_toArray, List.set_cons_zero, List.set_cons_succ])
          refine wpAnyH_take (i := 18) (oi := { dst := some 50, op := Op.load 3 (Operand.tmp 49), type := 3, pos := "file.go:61", after := #[{ on := 17, ground := Ground.data }, { on := 16, ground := Ground.guard }, { on := 21, ground := Ground.gcOnly Departure.lateStores }], guard := some (16, true) }) (v := undef) rfl (by kernel_rfl) (by kernel_rfl) (by kernel_rfl) (fun _ _ _ h => h) (Or.inr ⟨by rfl, rfl⟩) (by assumption) ?_
          (try simp only [Act.put, List.setIfInBounds_toArray, List.set_cons_zero, List.set_cons_succ])
          refine wpAnyH_take (i := 19) (oi := { dst := some 51, op := Op.binOp BinOp.leq 3 (Operand.tmp 50) (Operand.const (Value.int IntKind.i64 2097152)) 3, type := 4, pos := "file.go:61", after := #[{ on := 18, ground := Ground.data }, { on := 16, ground := Ground.guard }, { on := 21, ground := Ground.gcOnly Departure.lateStores }], guard := some (16, true) }) (v := undef) rfl (by kernel_rfl) (by kernel_rfl) (by kernel_rfl) (fun _ _ _ h => h) (Or.inr ⟨by rfl, rfl⟩) (by assumption) ?_
          (try simp only [Act.put, List.setIfInBounds_toArray, List.set_cons_zero, List.set_cons_succ])
          refine wpAnyH_take (i := 20) (oi := { dst := some 52, op := Op.pick (Operand.tmp 48) (Operand.tmp 51) (Operand.const (Value.bool false)), type := 4, pos := "file.go:61", after := #[{ on := 16, ground := Ground.data }, { on := 19, ground := Ground.data }, { on := 21, ground := Ground.gcOnly Departure.lateStores }], guard := none }) (v := ?_) rfl (by kernel_rfl) (by kernel_rfl) (by kernel_rfl) (fun _ _ _ h => h) (Or.inl ⟨by rfl, ?_⟩) (by assumption) ?_
          rotate_left 1
          · intro w hSw
            (try dsimp only at hSw)
            go_simp
            try with_reducible rfl
          (try simp only [Act.put, List.setIfInBounds_toArray, List.set_cons_zero, List.set_cons_succ])
          refine wpAnyH_ready (rs := [21]) (by kernel_rfl) (by simp) ?_
          refine AllReadyH.cons (o := { dst := none, op := Op.store 23 (Operand.tmp 2) (Operand.tmp 32), type := 0, pos := "file.go:61", after := #[{ on := 0, ground := Ground.data }, { on := 16, ground := Ground.chain }, { on := 0, ground := Ground.phase }, { on := 1, ground := Ground.textOnly Departure.lateStores }, { on := 2, ground := Ground.textOnly Departure.lateStores }, { on := 3, ground := Ground.textOnly Departure.lateStores }, { on := 4, ground := Ground.textOnly Departure.lateStores }, { on := 5, ground := Ground.textOnly Departure.lateStores }, { on := 6, ground := Ground.textOnly Departure.lateStores }, { on := 7, ground := Ground.textOnly Departure.lateStores }, { on := 8, ground := Ground.textOnly Departure.lateStoresUnsure }, { on := 9, ground := Ground.textOnly Departure.lateStores }, { on := 10, ground := Ground.textOnly Departure.lateStores }, { on := 11, ground := Ground.textOnly Departure.lateStores }, { on := 12, ground := Ground.textOnly Departure.lateStores }, { on := 13, ground := Ground.textOnly Departure.lateStoresUnsure }, { on := 14, ground := Ground.textOnly Departure.lateStores }, { on := 15, ground := Ground.textOnly Departure.lateStores }, { on := 16, ground := Ground.textOnly Departure.lateStores }, { on := 17, ground := Ground.textOnly Departure.lateStores }, { on := 18, ground := Ground.textOnly Departure.lateStores }, { on := 19, ground := Ground.textOnly Departure.lateStores }, { on := 20, ground := Ground.textOnly Departure.lateStores }], guard := none }) rfl (fun K hK => ?_) ?_
          rotate_left 1
          · exact AllReadyH.nil
          go_simp
          refine hK.out _ _ ?_ (fun hHeld21 => ?_)
          · exact keepS (W := w9) (far6d (W := w9) hQw (.int .i64 n0) (.int .i64 n1) (.int .i64 n2) (.int .i64 n3) (.int .i64 n4) (.int .i64 n5)) (far6d (W := w9) hw12 (.int .i64 n0) (.int .i64 n1) (.int .i64 n2) (.int .i64 n3) (.int .i64 n4) (.int .i64 n5)) ⟨q0, q1, q2, q3, q4, q5, cb⟩
          clear hK K
          (try simp only [Act.put, List.setIfInBounds_toArray, List.set_cons_zero, List.set_cons_succ])
          refine wpAnyH_take (i := 22) (oi := { dst := some 3, op := Op.assign (Operand.tmp 52), type := 4, pos := "file.go:61", after := #[{ on := 20, ground := Ground.data }, { on := 21, ground := Ground.chain }, { on := 0, ground := Ground.phase }, { on := 1, ground := Ground.phase }, { on := 2, ground := Ground.phase }, { on := 3, ground := Ground.phase }, { on := 4, ground := Ground.phase }, { on := 5, ground := Ground.phase }, { on := 6, ground := Ground.phase }, { on := 7, ground := Ground.phase }, { on := 8, ground := Ground.phase }, { on := 9, ground := Ground.phase }, { on := 10, ground := Ground.phase }, { on := 11, ground := Ground.phase }, { on := 12, ground := Ground.phase }, { on := 13, ground := Ground.phase }, { on := 14, ground := Ground.phase }, { on := 15, ground := Ground.phase }, { on := 16, ground := Ground.phase }, { on := 17, ground := Ground.phase }, { on := 18, ground := Ground.phase }, { on := 19, ground := Ground.phase }, { on := 20, ground := Ground.phase }, { on := 21, ground := Ground.phase }], guard := none }) (v := ?_) rfl (by kernel_rfl) (by kernel_rfl) (by kernel_rfl) (fun _ _ _ h => h) (Or.inl ⟨by rfl, ?_⟩) (by assumption) ?_
          rotate_left 1
          · intro w hSw
            (try dsimp only at hSw)
            go_simp
            try with_reducible rfl
          (try simp only [Act.put, List.setIfInBounds_toArray, List.set_cons_zero, List.set_cons_succ])
          refine wpAnyH_done (by kernel_rfl) ?_ _
          go_wp2
          refine bodyPost_ret (v := .tuple #[.agg #[.int .i64 n0, .int .i64 n1, .int .i64 n2, .int .i64 n3, .int .i64 n4, .int .i64 n5], .bool false]) ?_ rfl (HEND.out _ _ HIS.out ((below_six HBl9.out (Nat.le_refl _) (.int .i64 n0) (.int .i64 n1) (.int .i64 n2) (.int .i64 n3) (.int .i64 n4) (.int .i64 n5)).drew))
          · rw [results_cell_tmp rfl]
            go_simp
        · obtain rfl : a = a6 := hs6 a hs
          rw [hs] at cb HKeep HLf HRk9
          simp only [Option.isNone_some] at cb HKeep
          by_cases hlt6 : a < b.size
          · have hN : headP b.data.toList = none := by
              unfold headP
              rw [hs, if_neg]
              intro h
              have e : a = b.data.toList.length := Option.some.inj h.1
              have e2 : b.data.toList.length = b.size := rfl
              omega
            have HIS : Hid ((headP b.data.toList).isSome = false) := Lib.hid (by rw [hN]; rfl)
            have hlf : leftS b.size (some a) = true := by simp [leftS, hlt6]
            rw [hlf] at HLf
            clear hN hs hs6 hc6 hlf hlt6
            refine wp_region_held_drew (S := (fun W => W.cell? ⟨Q, 0, none⟩ = some (.int .i64 n0) ∧ W.cell? ⟨Q, 1, none⟩ = some (.int .i64 n1) ∧ W.cell? ⟨Q, 2, none⟩ = some (.int .i64 n2) ∧ W.cell? ⟨Q, 3, none⟩ = some (.int .i64 n3) ∧ W.cell? ⟨Q, 4, none⟩ = some (.int .i64 n4) ∧ W.cell? ⟨Q, 5, none⟩ = some (.int .i64 n5) ∧ W.cell? ⟨w.heap.size + 1, 2, none⟩ = some (.bool false))) (by kernel_rfl) ?_ (fun hHeld => ?_)
            · exact ⟨q0, q1, q2, q3, q4, q5, cb⟩
            refine wpAnyH_take (i := 0) (oi := { dst := some 32, op := Op.load 23 (Operand.tmp 7), type := 23, pos := "file.go:61", after := #[], guard := none }) (v := ?_) rfl (by kernel_rfl) (by kernel_rfl) (by kernel_rfl) (fun _ _ _ h => h) (Or.inl ⟨by rfl, ?_⟩) (by assumption) ?_
            rotate_left 1
            · intro w hSw
              (try dsimp only at hSw)
              go_simp
              try with_reducible rfl
            (try simp only [Act.put, List.setIfInBounds_toArray, List.set_cons_zero, List.set_cons_succ])
            refine wpAnyH_take (i := 1) (oi := { dst := some 33, op := Op.move (Operand.tmp 4), type := 120, pos := "file.go:61", after := #[], guard := none }) (v := ?_) rfl (by kernel_rfl) (by kernel_rfl) (by kernel_rfl) (fun _ _ _ h => h) (Or.inl ⟨by rfl, ?_⟩) (by assumption) ?_
            rotate_left 1
            · intro w hSw
              (try dsimp only at hSw)
              go_simp
              try with_reducible rfl
            (try simp only [Act.put, List.setIfInBounds_toArray, List.set_cons_zero, List.set_cons_succ])
            refine wpAnyH_take (i := 2) (oi := { dst := some 34, op := Op.nilCheck (Operand.tmp 33), type := 0, pos := "file.go:61", after := #[{ on := 1, ground := Ground.data }], guard := none }) (v := ?_) rfl (by kernel_rfl) (by kernel_rfl) (by kernel_rfl) (fun _ _ _ h => h) (Or.inl ⟨by rfl, ?_⟩) (by assumption) ?_
            rotate_left 1
            · intro w hSw
              (try dsimp only at hSw)
              go_simp
              try with_reducible rfl
            (try simp only [Act.put, List.setIfInBounds_toArray, List.set_cons_zero, List.set_cons_succ])
            refine wpAnyH_take (i := 3) (oi := { dst := some 35, op := Op.fieldAddr 122 (Operand.tmp 34) 2, type := 0, pos := "file.go:61", after := #[{ on := 2, ground := Ground.data }], guard := none }) (v := ?_) rfl (by kernel_rfl) (by kernel_rfl) (by kernel_rfl) (fun _ _ _ h => h) (Or.inl ⟨by rfl, ?_⟩) (by assumption) ?_
            rotate_left 1
            · intro w hSw
              (try dsimp only at hSw)
              go_simp
              try with_reducible rfl
            (try simp only [Act.put, List.setIfInBounds_toArray, List.set_cons_zero, List.set_cons_succ])
            refine wpAnyH_take (i := 4) (oi := { dst := some 36, op := Op.load 4 (Operand.tmp 35), type := 4, pos := "file.go:61", after := #[{ on := 3, ground := Ground.data }], guard := none }) (v := ?_) rfl (by kernel_rfl) (by kernel_rfl) (by kernel_rfl) (fun _ _ _ h => h) (Or.inl ⟨by rfl, ?_⟩) (by assumption) ?_
            rotate_left 1
            · intro w hSw
              (try dsimp only at hSw)
              go_simp
              try with_reducible rfl
            (try simp only [Act.put, List.setIfInBounds_toArray, List.set_cons_zero, List.set_cons_succ])
            refine wpAnyH_take (i := 5) (oi := { dst := some 37, op := Op.unOp UnOp.not 4 (Operand.tmp 36), type := 4, pos := "file.go:61", after := #[{ on := 4, ground := Ground.data }], guard := none }) (v := ?_) rfl (by kernel_rfl) (by kernel_rfl) (by kernel_rfl) (fun _ _ _ h => h) (Or.inl ⟨by rfl, ?_⟩) (by assumption) ?_
            rotate_left 1
            · intro w hSw
              (try dsimp only at hSw)
              go_simp
              try with_reducible rfl
            (try simp only [Act.put, List.setIfInBounds_toArray, List.set_cons_zero, List.set_cons_succ])
            refine wpAnyH_take (i := 6) (oi := { dst := some 38, op := Op.move (Operand.tmp 37), type := 4, pos := "file.go:61", after := #[{ on := 5, ground := Ground.data }], guard := none }) (v := ?_) rfl (by kernel_rfl) (by kernel_rfl) (by kernel_rfl) (fun _ _ _ h => h) (Or.inl ⟨by rfl, ?_⟩) (by assumption) ?_
            rotate_left 1
            · intro w hSw
              (try dsimp only at hSw)
              go_simp
              try with_reducible rfl
            (try simp only [Act.put, List.setIfInBounds_toArray, List.set_cons_zero, List.set_cons_succ])
            refine wpAnyH_take (i := 7) (oi := { dst := some 39, op := Op.move (Operand.tmp 4), type := 120, pos := "file.go:61", after := #[{ on := 6, ground := Ground.guard }], guard := some (6, true) }) (v := ?_) rfl (by kernel_rfl) (by kernel_rfl) (by kernel_rfl) (fun _ _ _ h => h) (Or.inl ⟨by rfl, ?_⟩) (by assumption) ?_
            rotate_left 1
            · intro w hSw
              (try dsimp only at hSw)
              go_simp
              try with_reducible rfl
            (try simp only [Act.put, List.setIfInBounds_toArray, List.set_cons_zero, List.set_cons_succ])
            refine wpAnyH_ready (rs := [8]) (by kernel_rfl) (by simp) ?_
            refine AllReadyH.cons (o := { dst := some 40, op := Op.call { callee := Callee.value (Operand.func 69), args := #[Operand.tmp 39], argTypes := #[120] }, type := 4, pos := "file.go:61", after := #[{ on := 7, ground := Ground.data }, { on := 6, ground := Ground.chain }, { on := 6, ground := Ground.guard }], guard := some (6, true) }) rfl (fun K hK => ?_) ?_
            rotate_left 1
            · exact AllReadyH.nil
            go_simp
            go_at_call 69; refine (HLf.out w9.drew (HRk9.out.keep (heap_drewX w9 ▸ rfl))).mono ?_; rintro e y1 ⟨rfl, hd1⟩; have hb1 : Below w9.heap.size w9 y1 := (by (obtain ⟨m1, rfl⟩ := hd1; exact below_drewN (Below.refl _ w9).drew m1)); have hk1 := HKeep.out _ hb1; clear z0 z1 z2 z3 z4 z5 g0 g1 g2 g3 g4 g5; obtain ⟨z0, z1, z2, z3, z4, z5⟩ := cells6 (HZk.out _ hb1); obtain ⟨g0, g1, g2, g3, g4, g5⟩ := frz6 (HZk.out _ hb1)
            refine hK.out _ _ ?_ (fun hHeld8 => ?_)
            · exact hk1
            clear hK K
            (try simp only [Act.put, List.setIfInBounds_toArray, List.set_cons_zero, List.set_cons_succ])
            refine wpAnyH_take (i := 9) (oi := { dst := some 41, op := Op.unOp UnOp.not 4 (Operand.tmp 40), type := 4, pos := "file.go:61", after := #[{ on := 8, ground := Ground.data }, { on := 6, ground := Ground.guard }], guard := some (6, true) }) (v := ?_) rfl (by kernel_rfl) (by kernel_rfl) (by kernel_rfl) (fun _ _ _ h => h) (Or.inl ⟨by rfl, ?_⟩) (by assumption) ?_
            rotate_left 1
            · intro w hSw
              (try dsimp only at hSw)
              go_simp
              try with_reducible rfl
            (try simp only [Act.put, List.setIfInBounds_toArray, List.set_cons_zero, List.set_cons_succ])
            refine wpAnyH_take (i := 10) (oi := { dst := some 42, op := Op.pick (Operand.tmp 38) (Operand.tmp 41) (Operand.const (Value.bool false)), type := 4, pos := "file.go:61", after := #[{ on := 6, ground := Ground.data }, { on := 9, ground := Ground.data }], guard := none }) (v := ?_) rfl (by kernel_rfl) (by kernel_rfl) (by kernel_rfl) (fun _ _ _ h => h) (Or.inl ⟨by rfl, ?_⟩) (by assumption) ?_
            rotate_left 1
            · intro w hSw
              (try dsimp only at hSw)
              go_simp
              try with_reducible rfl
            (try simp only [Act.put, List.setIfInBounds_toArray, List.set_cons_zero, List.set_cons_succ])
            refine wpAnyH_take (i := 11) (oi := { dst := some 43, op := Op.move (Operand.tmp 42), type := 4, pos := "file.go:61", after := #[{ on := 10, ground := Ground.data }, { on := 8, ground := Ground.chain }], guard := none }) (v := ?_) rfl (by kernel_rfl) (by kernel_rfl) (by kernel_rfl) (fun _ _ _ h => h) (Or.inl ⟨by rfl, ?_⟩) (by assumption) ?_
            rotate_left 1
            · intro w hSw
              (try dsimp only at hSw)
              go_simp
              try with_reducible rfl
            (try simp only [Act.put, List.setIfInBounds_toArray, List.set_cons_zero, List.set_cons_succ])
            refine wpAnyH_take (i := 12) (oi := { dst := some 44, op := Op.load 23 (Operand.tmp 7), type := 23, pos := "file.go:61", after := #[{ on := 11, ground := Ground.guard }], guard := some (11, true) }) (v := undef) rfl (by kernel_rfl) (by kernel_rfl) (by kernel_rfl) (fun _ _ _ h => h) (Or.inr ⟨by rfl, rfl⟩) (by assumption) ?_
            (try simp only [Act.put, List.setIfInBounds_toArray, List.set_cons_zero, List.set_cons_succ])
            refine wpAnyH_take (i := 13) (oi := { dst := some 45, op := Op.call { callee := Callee.value (Operand.func 31), args := #[Operand.tmp 44], argTypes := #[23] }, type := 26, pos := "file.go:61", after := #[{ on := 12, ground := Ground.data }, { on := 11, ground := Ground.chain }, { on := 11, ground := Ground.guard }], guard := some (11, true) }) (v := undef) rfl (by kernel_rfl) (by kernel_rfl) (by kernel_rfl) (fun _ _ _ h => h) (Or.inr ⟨by rfl, rfl⟩) (by assumption) ?_
            (try simp only [Act.put, List.setIfInBounds_toArray, List.set_cons_zero, List.set_cons_succ])
            refine wpAnyH_take (i := 14) (oi := { dst := some 46, op := Op.binOp BinOp.eql 26 (Operand.tmp 45) (Operand.const (Value.int IntKind.i64 0)) 26, type := 4, pos := "file.go:61", after := #[{ on := 13, ground := Ground.data }, { on := 11, ground := Ground.guard }], guard := some (11, true) }) (v := undef) rfl (by kernel_rfl) (by kernel_rfl) (by kernel_rfl) (fun _ _ _ h => h) (Or.inr ⟨by rfl, rfl⟩) (by assumption) ?_
            (try simp only [Act.put, List.setIfInBounds_toArray, List.set_cons_zero, List.set_cons_succ])
            refine wpAnyH_take (i := 15) (oi := { dst := some 47, op := Op.pick (Operand.tmp 43) (Operand.tmp 46) (Operand.const (Value.bool false)), type := 4, pos := "file.go:61", after := #[{ on := 11, ground := Ground.data }, { on := 14, ground := Ground.data }], guard := none }) (v := ?_) rfl (by kernel_rfl) (by kernel_rfl) (by kernel_rfl) (fun _ _ _ h => h) (Or.inl ⟨by rfl, ?_⟩) (by assumption) ?_
            rotate_left 1
            · intro w hSw
              (try dsimp only at hSw)
              go_simp
              try with_reducible rfl
            (try simp only [Act.put, List.setIfInBounds_toArray, List.set_cons_zero, List.set_cons_succ])
            refine wpAnyH_take (i := 16) (oi := { dst := some 48, op := Op.move (Operand.tmp 47), type := 4, pos := "file.go:61", after := #[{ on := 15, ground := Ground.data }, { on := 13, ground := Ground.chain }], guard := none }) (v := ?_) rfl (by kernel_rfl) (by kernel_rfl) (by kernel_rfl) (fun _ _ _ h => h) (Or.inl ⟨by rfl, ?_⟩) (by assumption) ?_
            rotate_left 1
            · intro w hSw
              (try dsimp only at hSw)
              go_simp
              try with_reducible rfl
            (try simp only [Act.put, List.setIfInBounds_toArray, List.set_cons_zero, List.set_cons_succ])
            refine wpAnyH_take (i := 17) (oi := { dst := some 49, op := Op.fieldAddr 23 (Operand.tmp 7) 5, type := 0, pos := "file.go:61", after := #[{ on := 16, ground := Ground.guard }, { on := 21, ground := Ground.gcOnly Departure.lateStores }], guard := some (16, true) }) (v := undef) rfl (by kernel_rfl) (by kernel_rfl) (by kernel_rfl) (fun _ _ _ h => h) (Or.inr ⟨by rfl, rfl⟩) (by assumption) ?_
            (try simp only [Act.put, List.setIfInBounds_toArray, List.set_cons_zero, List.set_cons_succ])
            refine wpAnyH_take (i := 18) (oi := { dst := some 50, op := Op.load 3 (Operand.tmp 49), type := 3, pos := "file.go:61", after := #[{ on := 17, ground := Ground.data }, { on := 16, ground := Ground.guard }, { on := 21, ground := Ground.gcOnly Departure.lateStores }], guard := some (16, true) }) (v := undef) rfl (by kernel_rfl) (by kernel_rfl) (by kernel_rfl) (fun _ _ _ h => h) (Or.inr ⟨by rfl, rfl⟩) (by assumption) ?_
            (try simp only [Act.put, List.setIfInBounds_toArray, List.set_cons_zero, List.set_cons_succ])
            refine wpAnyH_take (i := 19) (oi := { dst := some 51, op := Op.binOp BinOp.leq 3 (Operand.tmp 50) (Operand.const (Value.int IntKind.i64 2097152)) 3, type := 4, pos := "file.go:61", after := #[{ on := 18, ground := Ground.data }, { on := 16, ground := Ground.guard }, { on := 21, ground := Ground.gcOnly Departure.lateStores }], guard := some (16, true) }) (v := undef) rfl (by kernel_rfl) (by kernel_rfl) (by kernel_rfl) (fun _ _ _ h => h) (Or.inr ⟨by rfl, rfl⟩) (by assumption) ?_
            (try simp only [Act.put, List.setIfInBounds_toArray, List.set_cons_zero, List.set_cons_succ])
            refine wpAnyH_take (i := 20) (oi := { dst := some 52, op := Op.pick (Operand.tmp 48) (Operand.tmp 51) (Operand.const (Value.bool false)), type := 4, pos := "file.go:61", after := #[{ on := 16, ground := Ground.data }, { on := 19, ground := Ground.data }, { on := 21, ground := Ground.gcOnly Departure.lateStores }], guard := none }) (v := ?_) rfl (by kernel_rfl) (by kernel_rfl) (by kernel_rfl) (fun _ _ _ h => h) (Or.inl ⟨by rfl, ?_⟩) (by assumption) ?_
            rotate_left 1
            · intro w hSw
              (try dsimp only at hSw)
              go_simp
              try with_reducible rfl
            (try simp only [Act.put, List.setIfInBounds_toArray, List.set_cons_zero, List.set_cons_succ])
            refine wpAnyH_ready (rs := [21]) (by kernel_rfl) (by simp) ?_
            refine AllReadyH.cons (o := { dst := none, op := Op.store 23 (Operand.tmp 2) (Operand.tmp 32), type := 0, pos := "file.go:61", after := #[{ on := 0, ground := Ground.data }, { on := 16, ground := Ground.chain }, { on := 0, ground := Ground.phase }, { on := 1, ground := Ground.textOnly Departure.lateStores }, { on := 2, ground := Ground.textOnly Departure.lateStores }, { on := 3, ground := Ground.textOnly Departure.lateStores }, { on := 4, ground := Ground.textOnly Departure.lateStores }, { on := 5, ground := Ground.textOnly Departure.lateStores }, { on := 6, ground := Ground.textOnly Departure.lateStores }, { on := 7, ground := Ground.textOnly Departure.lateStores }, { on := 8, ground := Ground.textOnly Departure.lateStoresUnsure }, { on := 9, ground := Ground.textOnly Departure.lateStores }, { on := 10, ground := Ground.textOnly Departure.lateStores }, { on := 11, ground := Ground.textOnly Departure.lateStores }, { on := 12, ground := Ground.textOnly Departure.lateStores }, { on := 13, ground := Ground.textOnly Departure.lateStoresUnsure }, { on := 14, ground := Ground.textOnly Departure.lateStores }, { on := 15, ground := Ground.textOnly Departure.lateStores }, { on := 16, ground := Ground.textOnly Departure.lateStores }, { on := 17, ground := Ground.textOnly Departure.lateStores }, { on := 18, ground := Ground.textOnly Departure.lateStores }, { on := 19, ground := Ground.textOnly Departure.lateStores }, { on := 20, ground := Ground.textOnly Departure.lateStores }], guard := none }) rfl (fun K hK => ?_) ?_
            rotate_left 1
            · exact AllReadyH.nil
            go_simp
            refine hK.out _ _ ?_ (fun hHeld21 => ?_)
            · exact keepS (W := y1) (far6 (W := y1) hQw (.int .i64 n0) (.int .i64 n1) (.int .i64 n2) (.int .i64 n3) (.int .i64 n4) (.int .i64 n5)) (far6 (W := y1) hw12 (.int .i64 n0) (.int .i64 n1) (.int .i64 n2) (.int .i64 n3) (.int .i64 n4) (.int .i64 n5)) hk1
            clear hK K
            (try simp only [Act.put, List.setIfInBounds_toArray, List.set_cons_zero, List.set_cons_succ])
            refine wpAnyH_take (i := 22) (oi := { dst := some 3, op := Op.assign (Operand.tmp 52), type := 4, pos := "file.go:61", after := #[{ on := 20, ground := Ground.data }, { on := 21, ground := Ground.chain }, { on := 0, ground := Ground.phase }, { on := 1, ground := Ground.phase }, { on := 2, ground := Ground.phase }, { on := 3, ground := Ground.phase }, { on := 4, ground := Ground.phase }, { on := 5, ground := Ground.phase }, { on := 6, ground := Ground.phase }, { on := 7, ground := Ground.phase }, { on := 8, ground := Ground.phase }, { on := 9, ground := Ground.phase }, { on := 10, ground := Ground.phase }, { on := 11, ground := Ground.phase }, { on := 12, ground := Ground.phase }, { on := 13, ground := Ground.phase }, { on := 14, ground := Ground.phase }, { on := 15, ground := Ground.phase }, { on := 16, ground := Ground.phase }, { on := 17, ground := Ground.phase }, { on := 18, ground := Ground.phase }, { on := 19, ground := Ground.phase }, { on := 20, ground := Ground.phase }, { on := 21, ground := Ground.phase }], guard := none }) (v := ?_) rfl (by kernel_rfl) (by kernel_rfl) (by kernel_rfl) (fun _ _ _ h => h) (Or.inl ⟨by rfl, ?_⟩) (by assumption) ?_
            rotate_left 1
            · intro w hSw
              (try dsimp only at hSw)
              go_simp
              try with_reducible rfl
            (try simp only [Act.put, List.setIfInBounds_toArray, List.set_cons_zero, List.set_cons_succ])
            refine wpAnyH_done (by kernel_rfl) ?_ _
            go_wp2
            refine bodyPost_ret (v := .tuple #[.agg #[.int .i64 n0, .int .i64 n1, .int .i64 n2, .int .i64 n3, .int .i64 n4, .int .i64 n5], .bool false]) ?_ rfl (HEND.out _ _ HIS.out (below_six (HBl9.out.trans (hb1.mono (Nat.le_of_lt HWS.out))) (Nat.le_refl _) (.int .i64 n0) (.int .i64 n1) (.int .i64 n2) (.int .i64 n3) (.int .i64 n4) (.int .i64 n5)))
            · rw [results_cell_tmp rfl]
              go_simp
          · have hlf : leftS b.size (some a) = false := by simp [leftS]; omega
            rw [hlf] at HLf
            have hab : (headK b.data.toList 6).1 = some b.data.toList.length := by
              have e2 : b.data.toList.length = b.size := rfl
              rw [hs, e2]
              congr 1
              omega
            by_cases hR : headedR ⟨(n0 : Int), n1, n2, n3, n4, n5⟩ = 0
            · have hR' : headedR (hdOf [n0, n1, n2, n3, n4, n5]) = 0 := hR
              rw [hR] at HHd
              obtain ⟨d, hd⟩ : ∃ d, decide ((n5 : Int) ≤ 2097152) = d := ⟨_, rfl⟩
              have hd2 : decide (n5 ≤ 2097152) = d := by rw [← hd]; simp; omega
              have hN : (headP b.data.toList).isSome = d := by
                unfold headP
                rw [HL.out, hab]
                cases d with
                | true => rw [if_pos ⟨rfl, hR', show (n5 : Int) ≤ 2097152 by simpa using hd⟩]; rfl
                | false => rw [if_neg (fun h => by have h3 : (n5 : Int) ≤ 2097152 := h.2.2; simp at hd; omega)]; rfl
              have HIS := Lib.hid hN
              clear hN hs hs6 hc6 hlf hlt6 hab hR hR'
              refine wp_region_held_drew (S := (fun W => W.cell? ⟨Q, 0, none⟩ = some (.int .i64 n0) ∧ W.cell? ⟨Q, 1, none⟩ = some (.int .i64 n1) ∧ W.cell? ⟨Q, 2, none⟩ = some (.int .i64 n2) ∧ W.cell? ⟨Q, 3, none⟩ = some (.int .i64 n3) ∧ W.cell? ⟨Q, 4, none⟩ = some (.int .i64 n4) ∧ W.cell? ⟨Q, 5, none⟩ = some (.int .i64 n5) ∧ W.cell? ⟨w.heap.size + 1, 2, none⟩ = some (.bool false))) (by kernel_rfl) ?_ (fun hHeld => ?_)
              · exact ⟨q0, q1, q2, q3, q4, q5, cb⟩
              refine wpAnyH_take (i := 0) (oi := { dst := some 32, op := Op.load 23 (Operand.tmp 7), type := 23, pos := "file.go:61", after := #[], guard := none }) (v := ?_) rfl (by kernel_rfl) (by kernel_rfl) (by kernel_rfl) (fun _ _ _ h => h) (Or.inl ⟨by rfl, ?_⟩) (by assumption) ?_
              rotate_left 1
              · intro w hSw
                (try dsimp only at hSw)
                go_simp
                try with_reducible rfl
              (try simp only [Act.put, List.setIfInBounds_toArray, List.set_cons_zero, List.set_cons_succ])
              refine wpAnyH_take (i := 1) (oi := { dst := some 33, op := Op.move (Operand.tmp 4), type := 120, pos := "file.go:61", after := #[], guard := none }) (v := ?_) rfl (by kernel_rfl) (by kernel_rfl) (by kernel_rfl) (fun _ _ _ h => h) (Or.inl ⟨by rfl, ?_⟩) (by assumption) ?_
              rotate_left 1
              · intro w hSw
                (try dsimp only at hSw)
                go_simp
                try with_reducible rfl
              (try simp only [Act.put, List.setIfInBounds_toArray, List.set_cons_zero, List.set_cons_succ])
              refine wpAnyH_take (i := 2) (oi := { dst := some 34, op := Op.nilCheck (Operand.tmp 33), type := 0, pos := "file.go:61", after := #[{ on := 1, ground := Ground.data }], guard := none }) (v := ?_) rfl (by kernel_rfl) (by kernel_rfl) (by kernel_rfl) (fun _ _ _ h => h) (Or.inl ⟨by rfl, ?_⟩) (by assumption) ?_
              rotate_left 1
              · intro w hSw
                (try dsimp only at hSw)
                go_simp
                try with_reducible rfl
              (try simp only [Act.put, List.setIfInBounds_toArray, List.set_cons_zero, List.set_cons_succ])
              refine wpAnyH_take (i := 3) (oi := { dst := some 35, op := Op.fieldAddr 122 (Operand.tmp 34) 2, type := 0, pos := "file.go:61", after := #[{ on := 2, ground := Ground.data }], guard := none }) (v := ?_) rfl (by kernel_rfl) (by kernel_rfl) (by kernel_rfl) (fun _ _ _ h => h) (Or.inl ⟨by rfl, ?_⟩) (by assumption) ?_
              rotate_left 1
              · intro w hSw
                (try dsimp only at hSw)
                go_simp
                try with_reducible rfl
              (try simp only [Act.put, List.setIfInBounds_toArray, List.set_cons_zero, List.set_cons_succ])
              refine wpAnyH_take (i := 4) (oi := { dst := some 36, op := Op.load 4 (Operand.tmp 35), type := 4, pos := "file.go:61", after := #[{ on := 3, ground := Ground.data }], guard := none }) (v := ?_) rfl (by kernel_rfl) (by kernel_rfl) (by kernel_rfl) (fun _ _ _ h => h) (Or.inl ⟨by rfl, ?_⟩) (by assumption) ?_
              rotate_left 1
              · intro w hSw
                (try dsimp only at hSw)
                go_simp
                try with_reducible rfl
              (try simp only [Act.put, List.setIfInBounds_toArray, List.set_cons_zero, List.set_cons_succ])
              refine wpAnyH_take (i := 5) (oi := { dst := some 37, op := Op.unOp UnOp.not 4 (Operand.tmp 36), type := 4, pos := "file.go:61", after := #[{ on := 4, ground := Ground.data }], guard := none }) (v := ?_) rfl (by kernel_rfl) (by kernel_rfl) (by kernel_rfl) (fun _ _ _ h => h) (Or.inl ⟨by rfl, ?_⟩) (by assumption) ?_
              rotate_left 1
              · intro w hSw
                (try dsimp only at hSw)
                go_simp
                try with_reducible rfl
              (try simp only [Act.put, List.setIfInBounds_toArray, List.set_cons_zero, List.set_cons_succ])
              refine wpAnyH_take (i := 6) (oi := { dst := some 38, op := Op.move (Operand.tmp 37), type := 4, pos := "file.go:61", after := #[{ on := 5, ground := Ground.data }], guard := none }) (v := ?_) rfl (by kernel_rfl) (by kernel_rfl) (by kernel_rfl) (fun _ _ _ h => h) (Or.inl ⟨by rfl, ?_⟩) (by assumption) ?_
              rotate_left 1
              · intro w hSw
                (try dsimp only at hSw)
                go_simp
                try with_reducible rfl
              (try simp only [Act.put, List.setIfInBounds_toArray, List.set_cons_zero, List.set_cons_succ])
              refine wpAnyH_take (i := 7) (oi := { dst := some 39, op := Op.move (Operand.tmp 4), type := 120, pos := "file.go:61", after := #[{ on := 6, ground := Ground.guard }], guard := some (6, true) }) (v := ?_) rfl (by kernel_rfl) (by kernel_rfl) (by kernel_rfl) (fun _ _ _ h => h) (Or.inl ⟨by rfl, ?_⟩) (by assumption) ?_
              rotate_left 1
              · intro w hSw
                (try dsimp only at hSw)
                go_simp
                try with_reducible rfl
              (try simp only [Act.put, List.setIfInBounds_toArray, List.set_cons_zero, List.set_cons_succ])
              refine wpAnyH_ready (rs := [8]) (by kernel_rfl) (by simp) ?_
              refine AllReadyH.cons (o := { dst := some 40, op := Op.call { callee := Callee.value (Operand.func 69), args := #[Operand.tmp 39], argTypes := #[120] }, type := 4, pos := "file.go:61", after := #[{ on := 7, ground := Ground.data }, { on := 6, ground := Ground.chain }, { on := 6, ground := Ground.guard }], guard := some (6, true) }) rfl (fun K hK => ?_) ?_
              rotate_left 1
              · exact AllReadyH.nil
              go_simp
              go_at_call 69; refine (HLf.out w9.drew (HRk9.out.keep (heap_drewX w9 ▸ rfl))).mono ?_; rintro e y1 ⟨rfl, hd1⟩; have hb1 : Below w9.heap.size w9 y1 := (by (obtain ⟨m1, rfl⟩ := hd1; exact below_drewN (Below.refl _ w9).drew m1)); have hk1 := HKeep.out _ hb1; clear z0 z1 z2 z3 z4 z5 g0 g1 g2 g3 g4 g5; obtain ⟨z0, z1, z2, z3, z4, z5⟩ := cells6 (HZk.out _ hb1); obtain ⟨g0, g1, g2, g3, g4, g5⟩ := frz6 (HZk.out _ hb1)
              refine hK.out _ _ ?_ (fun hHeld8 => ?_)
              · exact hk1
              clear hK K
              (try simp only [Act.put, List.setIfInBounds_toArray, List.set_cons_zero, List.set_cons_succ])
              refine wpAnyH_take (i := 9) (oi := { dst := some 41, op := Op.unOp UnOp.not 4 (Operand.tmp 40), type := 4, pos := "file.go:61", after := #[{ on := 8, ground := Ground.data }, { on := 6, ground := Ground.guard }], guard := some (6, true) }) (v := ?_) rfl (by kernel_rfl) (by kernel_rfl) (by kernel_rfl) (fun _ _ _ h => h) (Or.inl ⟨by rfl, ?_⟩) (by assumption) ?_
              rotate_left 1
              · intro w hSw
                (try dsimp only at hSw)
                go_simp
                try with_reducible rfl
              (try simp only [Act.put, List.setIfInBounds_toArray, List.set_cons_zero, List.set_cons_succ])
              refine wpAnyH_take (i := 10) (oi := { dst := some 42, op := Op.pick (Operand.tmp 38) (Operand.tmp 41) (Operand.const (Value.bool false)), type := 4, pos := "file.go:61", after := #[{ on := 6, ground := Ground.data }, { on := 9, ground := Ground.data }], guard := none }) (v := ?_) rfl (by kernel_rfl) (by kernel_rfl) (by kernel_rfl) (fun _ _ _ h => h) (Or.inl ⟨by rfl, ?_⟩) (by assumption) ?_
              rotate_left 1
              · intro w hSw
                (try dsimp only at hSw)
                go_simp
                try with_reducible rfl
              (try simp only [Act.put, List.setIfInBounds_toArray, List.set_cons_zero, List.set_cons_succ])
              refine wpAnyH_take (i := 11) (oi := { dst := some 43, op := Op.move (Operand.tmp 42), type := 4, pos := "file.go:61", after := #[{ on := 10, ground := Ground.data }, { on := 8, ground := Ground.chain }], guard := none }) (v := ?_) rfl (by kernel_rfl) (by kernel_rfl) (by kernel_rfl) (fun _ _ _ h => h) (Or.inl ⟨by rfl, ?_⟩) (by assumption) ?_
              rotate_left 1
              · intro w hSw
                (try dsimp only at hSw)
                go_simp
                try with_reducible rfl
              (try simp only [Act.put, List.setIfInBounds_toArray, List.set_cons_zero, List.set_cons_succ])
              refine wpAnyH_take (i := 12) (oi := { dst := some 44, op := Op.load 23 (Operand.tmp 7), type := 23, pos := "file.go:61", after := #[{ on := 11, ground := Ground.guard }], guard := some (11, true) }) (v := ?_) rfl (by kernel_rfl) (by kernel_rfl) (by kernel_rfl) (fun _ _ _ h => h) (Or.inl ⟨by rfl, ?_⟩) (by assumption) ?_
              rotate_left 1
              · intro w hSw
                (try dsimp only at hSw)
                go_simp
                try with_reducible rfl
              (try simp only [Act.put, List.setIfInBounds_toArray, List.set_cons_zero, List.set_cons_succ])
              refine wpAnyH_ready (rs := [13]) (by kernel_rfl) (by simp) ?_
              refine AllReadyH.cons (o := { dst := some 45, op := Op.call { callee := Callee.value (Operand.func 31), args := #[Operand.tmp 44], argTypes := #[23] }, type := 26, pos := "file.go:61", after := #[{ on := 12, ground := Ground.data }, { on := 11, ground := Ground.chain }, { on := 11, ground := Ground.guard }], guard := some (11, true) }) rfl (fun K hK => ?_) ?_
              rotate_left 1
              · exact AllReadyH.nil
              go_simp
              go_at_call 31; refine (HHd.out _).mono ?_; rintro e y2 ⟨rfl, hb2⟩; have hb3 := hb1.trans (hb2.mono hb1.size); have hk2 := HKeep.out _ hb3; clear z0 z1 z2 z3 z4 z5 g0 g1 g2 g3 g4 g5; obtain ⟨z0, z1, z2, z3, z4, z5⟩ := cells6 (HZk.out _ hb3); obtain ⟨g0, g1, g2, g3, g4, g5⟩ := frz6 (HZk.out _ hb3)
              refine hK.out _ _ ?_ (fun hHeld13 => ?_)
              · exact hk2
              clear hK K
              (try simp only [Act.put, List.setIfInBounds_toArray, List.set_cons_zero, List.set_cons_succ])
              refine wpAnyH_take (i := 14) (oi := { dst := some 46, op := Op.binOp BinOp.eql 26 (Operand.tmp 45) (Operand.const (Value.int IntKind.i64 0)) 26, type := 4, pos := "file.go:61", after := #[{ on := 13, ground := Ground.data }, { on := 11, ground := Ground.guard }], guard := some (11, true) }) (v := ?_) rfl (by kernel_rfl) (by kernel_rfl) (by kernel_rfl) (fun _ _ _ h => h) (Or.inl ⟨by rfl, ?_⟩) (by assumption) ?_
              rotate_left 1
              · intro w hSw
                (try dsimp only at hSw)
                go_simp
                try with_reducible rfl
              (try simp only [Act.put, List.setIfInBounds_toArray, List.set_cons_zero, List.set_cons_succ])
              refine wpAnyH_take (i := 15) (oi := { dst := some 47, op := Op.pick (Operand.tmp 43) (Operand.tmp 46) (Operand.const (Value.bool false)), type := 4, pos := "file.go:61", after := #[{ on := 11, ground := Ground.data }, { on := 14, ground := Ground.data }], guard := none }) (v := ?_) rfl (by kernel_rfl) (by kernel_rfl) (by kernel_rfl) (fun _ _ _ h => h) (Or.inl ⟨by rfl, ?_⟩) (by assumption) ?_
              rotate_left 1
              · intro w hSw
                (try dsimp only at hSw)
                go_simp
                try with_reducible rfl
              (try simp only [Act.put, List.setIfInBounds_toArray, List.set_cons_zero, List.set_cons_succ])
              refine wpAnyH_take (i := 16) (oi := { dst := some 48, op := Op.move (Operand.tmp 47), type := 4, pos := "file.go:61", after := #[{ on := 15, ground := Ground.data }, { on := 13, ground := Ground.chain }], guard := none }) (v := ?_) rfl (by kernel_rfl) (by kernel_rfl) (by kernel_rfl) (fun _ _ _ h => h) (Or.inl ⟨by rfl, ?_⟩) (by assumption) ?_
              rotate_left 1
              · intro w hSw
                (try dsimp only at hSw)
                go_simp
                try with_reducible rfl
              (try simp only [Act.put, List.setIfInBounds_toArray, List.set_cons_zero, List.set_cons_succ])
              refine wpAnyH_take (i := 17) (oi := { dst := some 49, op := Op.fieldAddr 23 (Operand.tmp 7) 5, type := 0, pos := "file.go:61", after := #[{ on := 16, ground := Ground.guard }, { on := 21, ground := Ground.gcOnly Departure.lateStores }], guard := some (16, true) }) (v := ?_) rfl (by kernel_rfl) (by kernel_rfl) (by kernel_rfl) (fun _ _ _ h => h) (Or.inl ⟨by rfl, ?_⟩) (by assumption) ?_
              rotate_left 1
              · intro w hSw
                (try dsimp only at hSw)
                go_simp
                try with_reducible rfl
              (try simp only [Act.put, List.setIfInBounds_toArray, List.set_cons_zero, List.set_cons_succ])
              refine wpAnyH_take (i := 18) (oi := { dst := some 50, op := Op.load 3 (Operand.tmp 49), type := 3, pos := "file.go:61", after := #[{ on := 17, ground := Ground.data }, { on := 16, ground := Ground.guard }, { on := 21, ground := Ground.gcOnly Departure.lateStores }], guard := some (16, true) }) (v := ?_) rfl (by kernel_rfl) (by kernel_rfl) (by kernel_rfl) (fun _ _ _ h => h) (Or.inl ⟨by rfl, ?_⟩) (by assumption) ?_
              rotate_left 1
              · intro w hSw
                (try dsimp only at hSw)
                go_simp
                try with_reducible rfl
              (try simp only [Act.put, List.setIfInBounds_toArray, List.set_cons_zero, List.set_cons_succ])
              refine wpAnyH_take (i := 19) (oi := { dst := some 51, op := Op.binOp BinOp.leq 3 (Operand.tmp 50) (Operand.const (Value.int IntKind.i64 2097152)) 3, type := 4, pos := "file.go:61", after := #[{ on := 18, ground := Ground.data }, { on := 16, ground := Ground.guard }, { on := 21, ground := Ground.gcOnly Departure.lateStores }], guard := some (16, true) }) (v := ?_) rfl (by kernel_rfl) (by kernel_rfl) (by kernel_rfl) (fun _ _ _ h => h) (Or.inl ⟨by rfl, ?_⟩) (by assumption) ?_
              rotate_left 1
              · intro w hSw
                (try dsimp only at hSw)
                go_simp
                try with_reducible rfl
              (try simp only [Act.put, List.setIfInBounds_toArray, List.set_cons_zero, List.set_cons_succ])
              refine wpAnyH_take (i := 20) (oi := { dst := some 52, op := Op.pick (Operand.tmp 48) (Operand.tmp 51) (Operand.const (Value.bool false)), type := 4, pos := "file.go:61", after := #[{ on := 16, ground := Ground.data }, { on := 19, ground := Ground.data }, { on := 21, ground := Ground.gcOnly Departure.lateStores }], guard := none }) (v := ?_) rfl (by kernel_rfl) (by kernel_rfl) (by kernel_rfl) (fun _ _ _ h => h) (Or.inl ⟨by rfl, ?_⟩) (by assumption) ?_
              rotate_left 1
              · intro w hSw
                (try dsimp only at hSw)
                go_simp
                try with_reducible rfl
              (try simp only [Act.put, List.setIfInBounds_toArray, List.set_cons_zero, List.set_cons_succ])
              refine wpAnyH_ready (rs := [21]) (by kernel_rfl) (by simp) ?_
              refine AllReadyH.cons (o := { dst := none, op := Op.store 23 (Operand.tmp 2) (Operand.tmp 32), type := 0, pos := "file.go:61", after := #[{ on := 0, ground := Ground.data }, { on := 16, ground := Ground.chain }, { on := 0, ground := Ground.phase }, { on := 1, ground := Ground.textOnly Departure.lateStores }, { on := 2, ground := Ground.textOnly Departure.lateStores }, { on := 3, ground := Ground.textOnly Departure.lateStores }, { on := 4, ground := Ground.textOnly Departure.lateStores }, { on := 5, ground := Ground.textOnly Departure.lateStores }, { on := 6, ground := Ground.textOnly Departure.lateStores }, { on := 7, ground := Ground.textOnly Departure.lateStores }, { on := 8, ground := Ground.textOnly Departure.lateStoresUnsure }, { on := 9, ground := Ground.textOnly Departure.lateStores }, { on := 10, ground := Ground.textOnly Departure.lateStores }, { on := 11, ground := Ground.textOnly Departure.lateStores }, { on := 12, ground := Ground.textOnly Departure.lateStores }, { on := 13, ground := Ground.textOnly Departure.lateStoresUnsure }, { on := 14, ground := Ground.textOnly Departure.lateStores }, { on := 15, ground := Ground.textOnly Departure.lateStores }, { on := 16, ground := Ground.textOnly Departure.lateStores }, { on := 17, ground := Ground.textOnly Departure.lateStores }, { on := 18, ground := Ground.textOnly Departure.lateStores }, { on := 19, ground := Ground.textOnly Departure.lateStores }, { on := 20, ground := Ground.textOnly Departure.lateStores }], guard := none }) rfl (fun K hK => ?_) ?_
              rotate_left 1
              · exact AllReadyH.nil
              go_simp
              refine hK.out _ _ ?_ (fun hHeld21 => ?_)
              · exact keepS (W := y2) (far6 (W := y2) hQw (.int .i64 n0) (.int .i64 n1) (.int .i64 n2) (.int .i64 n3) (.int .i64 n4) (.int .i64 n5)) (far6 (W := y2) hw12 (.int .i64 n0) (.int .i64 n1) (.int .i64 n2) (.int .i64 n3) (.int .i64 n4) (.int .i64 n5)) hk2
              clear hK K
              (try simp only [Act.put, List.setIfInBounds_toArray, List.set_cons_zero, List.set_cons_succ])
              refine wpAnyH_take (i := 22) (oi := { dst := some 3, op := Op.assign (Operand.tmp 52), type := 4, pos := "file.go:61", after := #[{ on := 20, ground := Ground.data }, { on := 21, ground := Ground.chain }, { on := 0, ground := Ground.phase }, { on := 1, ground := Ground.phase }, { on := 2, ground := Ground.phase }, { on := 3, ground := Ground.phase }, { on := 4, ground := Ground.phase }, { on := 5, ground := Ground.phase }, { on := 6, ground := Ground.phase }, { on := 7, ground := Ground.phase }, { on := 8, ground := Ground.phase }, { on := 9, ground := Ground.phase }, { on := 10, ground := Ground.phase }, { on := 11, ground := Ground.phase }, { on := 12, ground := Ground.phase }, { on := 13, ground := Ground.phase }, { on := 14, ground := Ground.phase }, { on := 15, ground := Ground.phase }, { on := 16, ground := Ground.phase }, { on := 17, ground := Ground.phase }, { on := 18, ground := Ground.phase }, { on := 19, ground := Ground.phase }, { on := 20, ground := Ground.phase }, { on := 21, ground := Ground.phase }], guard := none }) (v := ?_) rfl (by kernel_rfl) (by kernel_rfl) (by kernel_rfl) (fun _ _ _ h => h) (Or.inl ⟨by rfl, ?_⟩) (by assumption) ?_
              rotate_left 1
              · intro w hSw
                (try dsimp only at hSw)
                go_simp
                try with_reducible rfl
              (try simp only [Act.put, List.setIfInBounds_toArray, List.set_cons_zero, List.set_cons_succ])
              refine wpAnyH_done (by kernel_rfl) ?_ _
              go_wp2
              refine bodyPost_ret (v := .tuple #[.agg #[.int .i64 n0, .int .i64 n1, .int .i64 n2, .int .i64 n3, .int .i64 n4, .int .i64 n5], .bool d]) ?_ rfl (HEND.out _ _ HIS.out (below_six (HBl9.out.trans (hb3.mono (Nat.le_of_lt HWS.out))) (Nat.le_refl _) (.int .i64 n0) (.int .i64 n1) (.int .i64 n2) (.int .i64 n3) (.int .i64 n4) (.int .i64 n5)))
              · rw [results_cell_tmp rfl]
                go_simp
            · obtain ⟨R, hRR⟩ : ∃ R, headedR ⟨(n0 : Int), n1, n2, n3, n4, n5⟩ = R := ⟨_, rfl⟩
              rw [hRR] at HHd hR
              have hd : (R == 0) = false := by rw [beq_eq_false_iff_ne]; exact hR
              have hN : headP b.data.toList = none := by
                unfold headP
                rw [HL.out, if_neg]
                intro h
                exact hR (hRR.symm.trans h.2.1)
              have HIS : Hid ((headP b.data.toList).isSome = false) := Lib.hid (by rw [hN]; rfl)
              clear hN hs hs6 hc6 hlf hlt6 hab hR hRR
              refine wp_region_held_drew (S := (fun W => W.cell? ⟨Q, 0, none⟩ = some (.int .i64 n0) ∧ W.cell? ⟨Q, 1, none⟩ = some (.int .i64 n1) ∧ W.cell? ⟨Q, 2, none⟩ = some (.int .i64 n2) ∧ W.cell? ⟨Q, 3, none⟩ = some (.int .i64 n3) ∧ W.cell? ⟨Q, 4, none⟩ = some (.int .i64 n4) ∧ W.cell? ⟨Q, 5, none⟩ = some (.int .i64 n5) ∧ W.cell? ⟨w.heap.size + 1, 2, none⟩ = some (.bool false))) (by kernel_rfl) ?_ (fun hHeld => ?_)
              · exact ⟨q0, q1, q2, q3, q4, q5, cb⟩
              refine wpAnyH_take (i := 0) (oi := { dst := some 32, op := Op.load 23 (Operand.tmp 7), type := 23, pos := "file.go:61", after := #[], guard := none }) (v := ?_) rfl (by kernel_rfl) (by kernel_rfl) (by kernel_rfl) (fun _ _ _ h => h) (Or.inl ⟨by rfl, ?_⟩) (by assumption) ?_
              rotate_left 1
              · intro w hSw
                (try dsimp only at hSw)
                go_simp
                try with_reducible rfl
              (try simp only [Act.put, List.setIfInBounds_toArray, List.set_cons_zero, List.set_cons_succ])
              refine wpAnyH_take (i := 1) (oi := { dst := some 33, op := Op.move (Operand.tmp 4), type := 120, pos := "file.go:61", after := #[], guard := none }) (v := ?_) rfl (by kernel_rfl) (by kernel_rfl) (by kernel_rfl) (fun _ _ _ h => h) (Or.inl ⟨by rfl, ?_⟩) (by assumption) ?_
              rotate_left 1
              · intro w hSw
                (try dsimp only at hSw)
                go_simp
                try with_reducible rfl
              (try simp only [Act.put, List.setIfInBounds_toArray, List.set_cons_zero, List.set_cons_succ])
              refine wpAnyH_take (i := 2) (oi := { dst := some 34, op := Op.nilCheck (Operand.tmp 33), type := 0, pos := "file.go:61", after := #[{ on := 1, ground := Ground.data }], guard := none }) (v := ?_) rfl (by kernel_rfl) (by kernel_rfl) (by kernel_rfl) (fun _ _ _ h => h) (Or.inl ⟨by rfl, ?_⟩) (by assumption) ?_
              rotate_left 1
              · intro w hSw
                (try dsimp only at hSw)
                go_simp
                try with_reducible rfl
              (try simp only [Act.put, List.setIfInBounds_toArray, List.set_cons_zero, List.set_cons_succ])
              refine wpAnyH_take (i := 3) (oi := { dst := some 35, op := Op.fieldAddr 122 (Operand.tmp 34) 2, type := 0, pos := "file.go:61", after := #[{ on := 2, ground := Ground.data }], guard := none }) (v := ?_) rfl (by kernel_rfl) (by kernel_rfl) (by kernel_rfl) (fun _ _ _ h => h) (Or.inl ⟨by rfl, ?_⟩) (by assumption) ?_
              rotate_left 1
              · intro w hSw
                (try dsimp only at hSw)
                go_simp
                try with_reducible rfl
              (try simp only [Act.put, List.setIfInBounds_toArray, List.set_cons_zero, List.set_cons_succ])
              refine wpAnyH_take (i := 4) (oi := { dst := some 36, op := Op.load 4 (Operand.tmp 35), type := 4, pos := "file.go:61", after := #[{ on := 3, ground := Ground.data }], guard := none }) (v := ?_) rfl (by kernel_rfl) (by kernel_rfl) (by kernel_rfl) (fun _ _ _ h => h) (Or.inl ⟨by rfl, ?_⟩) (by assumption) ?_
              rotate_left 1
              · intro w hSw
                (try dsimp only at hSw)
                go_simp
                try with_reducible rfl
              (try simp only [Act.put, List.setIfInBounds_toArray, List.set_cons_zero, List.set_cons_succ])
              refine wpAnyH_take (i := 5) (oi := { dst := some 37, op := Op.unOp UnOp.not 4 (Operand.tmp 36), type := 4, pos := "file.go:61", after := #[{ on := 4, ground := Ground.data }], guard := none }) (v := ?_) rfl (by kernel_rfl) (by kernel_rfl) (by kernel_rfl) (fun _ _ _ h => h) (Or.inl ⟨by rfl, ?_⟩) (by assumption) ?_
              rotate_left 1
              · intro w hSw
                (try dsimp only at hSw)
                go_simp
                try with_reducible rfl
              (try simp only [Act.put, List.setIfInBounds_toArray, List.set_cons_zero, List.set_cons_succ])
              refine wpAnyH_take (i := 6) (oi := { dst := some 38, op := Op.move (Operand.tmp 37), type := 4, pos := "file.go:61", after := #[{ on := 5, ground := Ground.data }], guard := none }) (v := ?_) rfl (by kernel_rfl) (by kernel_rfl) (by kernel_rfl) (fun _ _ _ h => h) (Or.inl ⟨by rfl, ?_⟩) (by assumption) ?_
              rotate_left 1
              · intro w hSw
                (try dsimp only at hSw)
                go_simp
                try with_reducible rfl
              (try simp only [Act.put, List.setIfInBounds_toArray, List.set_cons_zero, List.set_cons_succ])
              refine wpAnyH_take (i := 7) (oi := { dst := some 39, op := Op.move (Operand.tmp 4), type := 120, pos := "file.go:61", after := #[{ on := 6, ground := Ground.guard }], guard := some (6, true) }) (v := ?_) rfl (by kernel_rfl) (by kernel_rfl) (by kernel_rfl) (fun _ _ _ h => h) (Or.inl ⟨by rfl, ?_⟩) (by assumption) ?_
              rotate_left 1
              · intro w hSw
                (try dsimp only at hSw)
                go_simp
                try with_reducible rfl
              (try simp only [Act.put, List.setIfInBounds_toArray, List.set_cons_zero, List.set_cons_succ])
              refine wpAnyH_ready (rs := [8]) (by kernel_rfl) (by simp) ?_
              refine AllReadyH.cons (o := { dst := some 40, op := Op.call { callee := Callee.value (Operand.func 69), args := #[Operand.tmp 39], argTypes := #[120] }, type := 4, pos := "file.go:61", after := #[{ on := 7, ground := Ground.data }, { on := 6, ground := Ground.chain }, { on := 6, ground := Ground.guard }], guard := some (6, true) }) rfl (fun K hK => ?_) ?_
              rotate_left 1
              · exact AllReadyH.nil
              go_simp
              go_at_call 69; refine (HLf.out w9.drew (HRk9.out.keep (heap_drewX w9 ▸ rfl))).mono ?_; rintro e y1 ⟨rfl, hd1⟩; have hb1 : Below w9.heap.size w9 y1 := (by (obtain ⟨m1, rfl⟩ := hd1; exact below_drewN (Below.refl _ w9).drew m1)); have hk1 := HKeep.out _ hb1; clear z0 z1 z2 z3 z4 z5 g0 g1 g2 g3 g4 g5; obtain ⟨z0, z1, z2, z3, z4, z5⟩ := cells6 (HZk.out _ hb1); obtain ⟨g0, g1, g2, g3, g4, g5⟩ := frz6 (HZk.out _ hb1)
              refine hK.out _ _ ?_ (fun hHeld8 => ?_)
              · exact hk1
              clear hK K
              (try simp only [Act.put, List.setIfInBounds_toArray, List.set_cons_zero, List.set_cons_succ])
              refine wpAnyH_take (i := 9) (oi := { dst := some 41, op := Op.unOp UnOp.not 4 (Operand.tmp 40), type := 4, pos := "file.go:61", after := #[{ on := 8, ground := Ground.data }, { on := 6, ground := Ground.guard }], guard := some (6, true) }) (v := ?_) rfl (by kernel_rfl) (by kernel_rfl) (by kernel_rfl) (fun _ _ _ h => h) (Or.inl ⟨by rfl, ?_⟩) (by assumption) ?_
              rotate_left 1
              · intro w hSw
                (try dsimp only at hSw)
                go_simp
                try with_reducible rfl
              (try simp only [Act.put, List.setIfInBounds_toArray, List.set_cons_zero, List.set_cons_succ])
              refine wpAnyH_take (i := 10) (oi := { dst := some 42, op := Op.pick (Operand.tmp 38) (Operand.tmp 41) (Operand.const (Value.bool false)), type := 4, pos := "file.go:61", after := #[{ on := 6, ground := Ground.data }, { on := 9, ground := Ground.data }], guard := none }) (v := ?_) rfl (by kernel_rfl) (by kernel_rfl) (by kernel_rfl) (fun _ _ _ h => h) (Or.inl ⟨by rfl, ?_⟩) (by assumption) ?_
              rotate_left 1
              · intro w hSw
                (try dsimp only at hSw)
                go_simp
                try with_reducible rfl
              (try simp only [Act.put, List.setIfInBounds_toArray, List.set_cons_zero, List.set_cons_succ])
              refine wpAnyH_take (i := 11) (oi := { dst := some 43, op := Op.move (Operand.tmp 42), type := 4, pos := "file.go:61", after := #[{ on := 10, ground := Ground.data }, { on := 8, ground := Ground.chain }], guard := none }) (v := ?_) rfl (by kernel_rfl) (by kernel_rfl) (by kernel_rfl) (fun _ _ _ h => h) (Or.inl ⟨by rfl, ?_⟩) (by assumption) ?_
              rotate_left 1
              · intro w hSw
                (try dsimp only at hSw)
                go_simp
                try with_reducible rfl
              (try simp only [Act.put, List.setIfInBounds_toArray, List.set_cons_zero, List.set_cons_succ])
              refine wpAnyH_take (i := 12) (oi := { dst := some 44, op := Op.load 23 (Operand.tmp 7), type := 23, pos := "file.go:61", after := #[{ on := 11, ground := Ground.guard }], guard := some (11, true) }) (v := ?_) rfl (by kernel_rfl) (by kernel_rfl) (by kernel_rfl) (fun _ _ _ h => h) (Or.inl ⟨by rfl, ?_⟩) (by assumption) ?_
              rotate_left 1
              · intro w hSw
                (try dsimp only at hSw)
                go_simp
                try with_reducible rfl
              (try simp only [Act.put, List.setIfInBounds_toArray, List.set_cons_zero, List.set_cons_succ])
              refine wpAnyH_ready (rs := [13]) (by kernel_rfl) (by simp) ?_
              refine AllReadyH.cons (o := { dst := some 45, op := Op.call { callee := Callee.value (Operand.func 31), args := #[Operand.tmp 44], argTypes := #[23] }, type := 26, pos := "file.go:61", after := #[{ on := 12, ground := Ground.data }, { on := 11, ground := Ground.chain }, { on := 11, ground := Ground.guard }], guard := some (11, true) }) rfl (fun K hK => ?_) ?_
              rotate_left 1
              · exact AllReadyH.nil
              go_simp
              go_at_call 31; refine (HHd.out _).mono ?_; rintro e y2 ⟨rfl, hb2⟩; have hb3 := hb1.trans (hb2.mono hb1.size); have hk2 := HKeep.out _ hb3; clear z0 z1 z2 z3 z4 z5 g0 g1 g2 g3 g4 g5; obtain ⟨z0, z1, z2, z3, z4, z5⟩ := cells6 (HZk.out _ hb3); obtain ⟨g0, g1, g2, g3, g4, g5⟩ := frz6 (HZk.out _ hb3)
              refine hK.out _ _ ?_ (fun hHeld13 => ?_)
              · exact hk2
              clear hK K
              (try simp only [Act.put, List.setIfInBounds_toArray, List.set_cons_zero, List.set_cons_succ])
              refine wpAnyH_take (i := 14) (oi := { dst := some 46, op := Op.binOp BinOp.eql 26 (Operand.tmp 45) (Operand.const (Value.int IntKind.i64 0)) 26, type := 4, pos := "file.go:61", after := #[{ on := 13, ground := Ground.data }, { on := 11, ground := Ground.guard }], guard := some (11, true) }) (v := ?_) rfl (by kernel_rfl) (by kernel_rfl) (by kernel_rfl) (fun _ _ _ h => h) (Or.inl ⟨by rfl, ?_⟩) (by assumption) ?_
              rotate_left 1
              · intro w hSw
                (try dsimp only at hSw)
                go_simp
                try with_reducible rfl
              (try simp only [Act.put, List.setIfInBounds_toArray, List.set_cons_zero, List.set_cons_succ])
              refine wpAnyH_take (i := 15) (oi := { dst := some 47, op := Op.pick (Operand.tmp 43) (Operand.tmp 46) (Operand.const (Value.bool false)), type := 4, pos := "file.go:61", after := #[{ on := 11, ground := Ground.data }, { on := 14, ground := Ground.data }], guard := none }) (v := ?_) rfl (by kernel_rfl) (by kernel_rfl) (by kernel_rfl) (fun _ _ _ h => h) (Or.inl ⟨by rfl, ?_⟩) (by assumption) ?_
              rotate_left 1
              · intro w hSw
                (try dsimp only at hSw)
                go_simp
                try with_reducible rfl
              (try simp only [Act.put, List.setIfInBounds_toArray, List.set_cons_zero, List.set_cons_succ])
              refine wpAnyH_take (i := 16) (oi := { dst := some 48, op := Op.move (Operand.tmp 47), type := 4, pos := "file.go:61", after := #[{ on := 15, ground := Ground.data }, { on := 13, ground := Ground.chain }], guard := none }) (v := ?_) rfl (by kernel_rfl) (by kernel_rfl) (by kernel_rfl) (fun _ _ _ h => h) (Or.inl ⟨by rfl, ?_⟩) (by assumption) ?_
              rotate_left 1
              · intro w hSw
                (try dsimp only at hSw)
                go_simp
                try with_reducible rfl
              (try simp only [Act.put, List.setIfInBounds_toArray, List.set_cons_zero, List.set_cons_succ])
              refine wpAnyH_take (i := 17) (oi := { dst := some 49, op := Op.fieldAddr 23 (Operand.tmp 7) 5, type := 0, pos := "file.go:61", after := #[{ on := 16, ground := Ground.guard }, { on := 21, ground := Ground.gcOnly Departure.lateStores }], guard := some (16, true) }) (v := undef) rfl (by kernel_rfl) (by kernel_rfl) (by kernel_rfl) (fun _ _ _ h => h) (Or.inr ⟨by rfl, rfl⟩) (by assumption) ?_
              (try simp only [Act.put, List.setIfInBounds_toArray, List.set_cons_zero, List.set_cons_succ])
              refine wpAnyH_take (i := 18) (oi := { dst := some 50, op := Op.load 3 (Operand.tmp 49), type := 3, pos := "file.go:61", after := #[{ on := 17, ground := Ground.data }, { on := 16, ground := Ground.guard }, { on := 21, ground := Ground.gcOnly Departure.lateStores }], guard := some (16, true) }) (v := undef) rfl (by kernel_rfl) (by kernel_rfl) (by kernel_rfl) (fun _ _ _ h => h) (Or.inr ⟨by rfl, rfl⟩) (by assumption) ?_
              (try simp only [Act.put, List.setIfInBounds_toArray, List.set_cons_zero, List.set_cons_succ])
              refine wpAnyH_take (i := 19) (oi := { dst := some 51, op := Op.binOp BinOp.leq 3 (Operand.tmp 50) (Operand.const (Value.int IntKind.i64 2097152)) 3, type := 4, pos := "file.go:61", after := #[{ on := 18, ground := Ground.data }, { on := 16, ground := Ground.guard }, { on := 21, ground := Ground.gcOnly Departure.lateStores }], guard := some (16, true) }) (v := undef) rfl (by kernel_rfl) (by kernel_rfl) (by kernel_rfl) (fun _ _ _ h => h) (Or.inr ⟨by rfl, rfl⟩) (by assumption) ?_
              (try simp only [Act.put, List.setIfInBounds_toArray, List.set_cons_zero, List.set_cons_succ])
              refine wpAnyH_take (i := 20) (oi := { dst := some 52, op := Op.pick (Operand.tmp 48) (Operand.tmp 51) (Operand.const (Value.bool false)), type := 4, pos := "file.go:61", after := #[{ on := 16, ground := Ground.data }, { on := 19, ground := Ground.data }, { on := 21, ground := Ground.gcOnly Departure.lateStores }], guard := none }) (v := ?_) rfl (by kernel_rfl) (by kernel_rfl) (by kernel_rfl) (fun _ _ _ h => h) (Or.inl ⟨by rfl, ?_⟩) (by assumption) ?_
              rotate_left 1
              · intro w hSw
                (try dsimp only at hSw)
                go_simp
                try with_reducible rfl
              (try simp only [Act.put, List.setIfInBounds_toArray, List.set_cons_zero, List.set_cons_succ])
              refine wpAnyH_ready (rs := [21]) (by kernel_rfl) (by simp) ?_
              refine AllReadyH.cons (o := { dst := none, op := Op.store 23 (Operand.tmp 2) (Operand.tmp 32), type := 0, pos := "file.go:61", after := #[{ on := 0, ground := Ground.data }, { on := 16, ground := Ground.chain }, { on := 0, ground := Ground.phase }, { on := 1, ground := Ground.textOnly Departure.lateStores }, { on := 2, ground := Ground.textOnly Departure.lateStores }, { on := 3, ground := Ground.textOnly Departure.lateStores }, { on := 4, ground := Ground.textOnly Departure.lateStores }, { on := 5, ground := Ground.textOnly Departure.lateStores }, { on := 6, ground := Ground.textOnly Departure.lateStores }, { on := 7, ground := Ground.textOnly Departure.lateStores }, { on := 8, ground := Ground.textOnly Departure.lateStoresUnsure }, { on := 9, ground := Ground.textOnly Departure.lateStores }, { on := 10, ground := Ground.textOnly Departure.lateStores }, { on := 11, ground := Ground.textOnly Departure.lateStores }, { on := 12, ground := Ground.textOnly Departure.lateStores }, { on := 13, ground := Ground.textOnly Departure.lateStoresUnsure }, { on := 14, ground := Ground.textOnly Departure.lateStores }, { on := 15, ground := Ground.textOnly Departure.lateStores }, { on := 16, ground := Ground.textOnly Departure.lateStores }, { on := 17, ground := Ground.textOnly Departure.lateStores }, { on := 18, ground := Ground.textOnly Departure.lateStores }, { on := 19, ground := Ground.textOnly Departure.lateStores }, { on := 20, ground := Ground.textOnly Departure.lateStores }], guard := none }) rfl (fun K hK => ?_) ?_
              rotate_left 1
              · exact AllReadyH.nil
              go_simp
              refine hK.out _ _ ?_ (fun hHeld21 => ?_)
              · exact keepS (W := y2) (far6 (W := y2) hQw (.int .i64 n0) (.int .i64 n1) (.int .i64 n2) (.int .i64 n3) (.int .i64 n4) (.int .i64 n5)) (far6 (W := y2) hw12 (.int .i64 n0) (.int .i64 n1) (.int .i64 n2) (.int .i64 n3) (.int .i64 n4) (.int .i64 n5)) hk2
              clear hK K
              (try simp only [Act.put, List.setIfInBounds_toArray, List.set_cons_zero, List.set_cons_succ])
              refine wpAnyH_take (i := 22) (oi := { dst := some 3, op := Op.assign (Operand.tmp 52), type := 4, pos := "file.go:61", after := #[{ on := 20, ground := Ground.data }, { on := 21, ground := Ground.chain }, { on := 0, ground := Ground.phase }, { on := 1, ground := Ground.phase }, { on := 2, ground := Ground.phase }, { on := 3, ground := Ground.phase }, { on := 4, ground := Ground.phase }, { on := 5, ground := Ground.phase }, { on := 6, ground := Ground.phase }, { on := 7, ground := Ground.phase }, { on := 8, ground := Ground.phase }, { on := 9, ground := Ground.phase }, { on := 10, ground := Ground.phase }, { on := 11, ground := Ground.phase }, { on := 12, ground := Ground.phase }, { on := 13, ground := Ground.phase }, { on := 14, ground := Ground.phase }, { on := 15, ground := Ground.phase }, { on := 16, ground := Ground.phase }, { on := 17, ground := Ground.phase }, { on := 18, ground := Ground.phase }, { on := 19, ground := Ground.phase }, { on := 20, ground := Ground.phase }, { on := 21, ground := Ground.phase }], guard := none }) (v := ?_) rfl (by kernel_rfl) (by kernel_rfl) (by kernel_rfl) (fun _ _ _ h => h) (Or.inl ⟨by rfl, ?_⟩) (by assumption) ?_
              rotate_left 1
              · intro w hSw
                (try dsimp only at hSw)
                go_simp
                try with_reducible rfl
              (try simp only [Act.put, List.setIfInBounds_toArray, List.set_cons_zero, List.set_cons_succ])
              refine wpAnyH_done (by kernel_rfl) ?_ _
              go_wp2
              refine bodyPost_ret (v := .tuple #[.agg #[.int .i64 n0, .int .i64 n1, .int .i64 n2, .int .i64 n3, .int .i64 n4, .int .i64 n5], .bool false]) ?_ rfl (HEND.out _ _ HIS.out (below_six (HBl9.out.trans (hb3.mono (Nat.le_of_lt HWS.out))) (Nat.le_refl _) (.int .i64 n0) (.int .i64 n1) (.int .i64 n2) (.int .i64 n3) (.int .i64 n4) (.int .i64 n5)))
              · rw [results_cell_tmp rfl]
                go_simp
end Go.Proofs.YtihgjihdmlomaaaDoor

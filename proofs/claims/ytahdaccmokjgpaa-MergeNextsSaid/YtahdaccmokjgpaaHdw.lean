/-
  WALKS: the methods of a merger's heads.
-/
import Derived.Test.YtahdaccmokjgpaaHdv
import Derived.Deep.AppendLies
import Derived.Deep.RegionLaw
import Derived.BigRegion
import Derived.RegionTactic
import Derived.Deep.RegionHeld3
import Derived.StillTailTactics
import Derived.Outline
namespace Go.Proofs.Ytahdaccmokjgpaa
open Go.RowKit ArgK
set_option linter.unusedVariables false

theorem headinfo : (Try.prog.info? 100).map (fun i => (i.zero, i.size, i.bytes)) = some (some (.agg #[.int .i64 0, .string ⟨#[]⟩, .int .i64 0, .int .i64 0, .bool false, .int .i64 0]), 6, 56) := by kernel_rfl

theorem below_of_drew {w w' : World} (h : Below w.drew.heap.size w.drew w') : Below w.heap.size w w' := ⟨h.os, h.tape, h.output, h.size, h.block⟩

theorem own_drew {w : World} {base : Nat} {e : TypeId} {size : Nat} {v : Value} {n : Nat} {xs : List Value} (h : w.ownsRow base e size v n xs) : w.drew.ownsRow base e size v n xs := h

theorem heap_drew (w : World) : w.drew.heap = w.heap := rfl

theorem Len_calls (p : Option Addr) (n c : Nat) (w : World) : Calls Try.prog 77 #[.slice p n c] w fun e w' => e = .returned (.int .i64 n) ∧ w = w' := by
  go_enter Try.func77, Try.ntmps77
  go_wp2
  go_ret
  exact ⟨rfl, rfl⟩

set_option maxRecDepth 100000 in
set_option maxHeartbeats 1000000 in
theorem Less_calls {w : World} {B g n c : Nat} {L : List Hdv} (h : w.ownsRow B 100 6 (.slice (some ⟨g, 0, none⟩) n c) n (encD L)) (hn : n ≤ 4398046511104) {i j : Nat} (hi : i < n) (hj : j < n) :
    Calls Try.prog 78 #[.slice (some ⟨g, 0, none⟩) n c, .int .i64 i, .int .i64 j] w fun e w' => e = .returned (.bool (decide (hdless (hdG L i) (hdG L j)))) ∧ Below w.heap.size w w' := by
  have hl := own_lenD h
  obtain ⟨x0, x1, x2, x3, x4, x5⟩ := own_sixD h (hdG_get (L := L) (j := i) (by omega))
  obtain ⟨y0, y1, y2, y3, y4, y5⟩ := own_sixD h (hdG_get (L := L) (j := j) (by omega))
  have hgl := cell_lt x0
  generalize hdG L i = x at x0 x1 x2 x3 x4 x5 ⊢
  generalize hdG L j = y at y0 y1 y2 y3 y4 y5 ⊢
  have CC := Lib.hid (fun W => Compare_calls x.e y.e W)
  have hb3 := cmpE_bound x.e y.e
  have HN := Lib.hid (cmpE_neg (a := x.e) (b := y.e))
  have HZ := Lib.hid (cmpE_zero (a := x.e) (b := y.e))
  obtain ⟨r, hr⟩ : ∃ r, decide (hdless x y) = r := ⟨_, rfl⟩
  rw [hr]
  generalize cmpE x.e y.e = q at CC hb3 HN HZ
  have i0 : (0 : Int) ≤ (i : Int) := by omega
  have i1 : (i : Int) < (n : Int) := by omega
  have i2 : (0 : Int) ≤ (j : Int) := by omega
  have i3 : (j : Int) < (n : Int) := by omega
  have HR : Hid (r = (decide (q < 0) || (decide (q = 0) && decide (x.n < y.n)))) := Lib.hid (by
    rw [← hr]
    unfold hdless
    rw [Bool.eq_iff_iff]
    simp only [decide_eq_true_eq, Bool.or_eq_true, Bool.and_eq_true]
    rw [HN.out, HZ.out]
    exact decide_eq_true_iff)
  clear hr h HN HZ hl
  go_enter Try.func78, Try.ntmps78
  go_wp2
  go_still_tail 10, (by kernel_rfl)
  go_wp2_with fail
  refine (CC.out _).mono ?_
  rintro e w' ⟨rfl, hb⟩
  have X5 := (hb.cell (p := ⟨g, i * 6 + 5, none⟩) hgl).trans x5
  have Y5 := (hb.cell (p := ⟨g, j * 6 + 5, none⟩) hgl).trans y5
  have HB := Lib.hid hb
  clear hb x0 x1 x2 x3 x4 x5 y0 y1 y2 y3 y4 y5 CC
  rcases hb3 with rfl | rfl | rfl
  · go_wp2
    go_quiet (fail)
    go_wp2
    go_ret
    exact ⟨by rw [HR.out]; simp, below_drewN (below_of_drew HB.out) _⟩
  · go_wp2
    go_quiet (fail)
    go_wp2
    go_ret
    exact ⟨by rw [HR.out]; simp, below_drewN (below_of_drew HB.out) _⟩
  · go_wp2
    go_quiet (fail)
    go_wp2
    go_ret
    exact ⟨by rw [HR.out]; simp, below_drewN (below_of_drew HB.out) _⟩

set_option maxRecDepth 100000 in
set_option maxHeartbeats 1000000 in
theorem Swap_calls {w : World} {B g n c : Nat} {L : List Hdv} (h : w.ownsRow B 100 6 (.slice (some ⟨g, 0, none⟩) n c) n (encD L)) (hn : n ≤ 4398046511104) {i j : Nat} (hi : i < n) (hj : j < n) (hij : i ≠ j) :
    Calls Try.prog 81 #[.slice (some ⟨g, 0, none⟩) n c, .int .i64 i, .int .i64 j] w fun e w' => e = .returned (.tuple #[]) ∧ w' = (setD (setD w g i (hdG L j)) g j (hdG L i)).drew := by
  have hl := own_lenD h
  obtain ⟨x0, x1, x2, x3, x4, x5⟩ := own_sixD h (hdG_get (L := L) (j := i) (by omega))
  obtain ⟨y0, y1, y2, y3, y4, y5⟩ := own_sixD h (hdG_get (L := L) (j := j) (by omega))
  have fi0 := h.frozenAt (i * 6)
  have fj0 := h.frozenAt (j * 6)
  have fi1 := h.frozenAt (i * 6 + 1)
  have fj1 := h.frozenAt (j * 6 + 1)
  have fi2 := h.frozenAt (i * 6 + 2)
  have fj2 := h.frozenAt (j * 6 + 2)
  have fi3 := h.frozenAt (i * 6 + 3)
  have fj3 := h.frozenAt (j * 6 + 3)
  have fi4 := h.frozenAt (i * 6 + 4)
  have fj4 := h.frozenAt (j * 6 + 4)
  have fi5 := h.frozenAt (i * 6 + 5)
  have fj5 := h.frozenAt (j * 6 + 5)
  generalize hdG L i = x at x0 x1 x2 x3 x4 x5 ⊢
  generalize hdG L j = y at y0 y1 y2 y3 y4 y5 ⊢
  unfold setD
  have i0 : (0 : Int) ≤ (i : Int) := by omega
  have i1 : (i : Int) < (n : Int) := by omega
  have i2 : (0 : Int) ≤ (j : Int) := by omega
  have i3 : (j : Int) < (n : Int) := by omega
  have n00 : ¬ (i * 6 = j * 6) := by omega
  have m00 : ¬ (j * 6 = i * 6) := by omega
  have n01 : ¬ (i * 6 = j * 6 + 1) := by omega
  have m01 : ¬ (j * 6 + 1 = i * 6) := by omega
  have n02 : ¬ (i * 6 = j * 6 + 2) := by omega
  have m02 : ¬ (j * 6 + 2 = i * 6) := by omega
  have n03 : ¬ (i * 6 = j * 6 + 3) := by omega
  have m03 : ¬ (j * 6 + 3 = i * 6) := by omega
  have n04 : ¬ (i * 6 = j * 6 + 4) := by omega
  have m04 : ¬ (j * 6 + 4 = i * 6) := by omega
  have n05 : ¬ (i * 6 = j * 6 + 5) := by omega
  have m05 : ¬ (j * 6 + 5 = i * 6) := by omega
  have n10 : ¬ (i * 6 + 1 = j * 6) := by omega
  have m10 : ¬ (j * 6 = i * 6 + 1) := by omega
  have n11 : ¬ (i * 6 + 1 = j * 6 + 1) := by omega
  have m11 : ¬ (j * 6 + 1 = i * 6 + 1) := by omega
  have n12 : ¬ (i * 6 + 1 = j * 6 + 2) := by omega
  have m12 : ¬ (j * 6 + 2 = i * 6 + 1) := by omega
  have n13 : ¬ (i * 6 + 1 = j * 6 + 3) := by omega
  have m13 : ¬ (j * 6 + 3 = i * 6 + 1) := by omega
  have n14 : ¬ (i * 6 + 1 = j * 6 + 4) := by omega
  have m14 : ¬ (j * 6 + 4 = i * 6 + 1) := by omega
  have n15 : ¬ (i * 6 + 1 = j * 6 + 5) := by omega
  have m15 : ¬ (j * 6 + 5 = i * 6 + 1) := by omega
  have n20 : ¬ (i * 6 + 2 = j * 6) := by omega
  have m20 : ¬ (j * 6 = i * 6 + 2) := by omega
  have n21 : ¬ (i * 6 + 2 = j * 6 + 1) := by omega
  have m21 : ¬ (j * 6 + 1 = i * 6 + 2) := by omega
  have n22 : ¬ (i * 6 + 2 = j * 6 + 2) := by omega
  have m22 : ¬ (j * 6 + 2 = i * 6 + 2) := by omega
  have n23 : ¬ (i * 6 + 2 = j * 6 + 3) := by omega
  have m23 : ¬ (j * 6 + 3 = i * 6 + 2) := by omega
  have n24 : ¬ (i * 6 + 2 = j * 6 + 4) := by omega
  have m24 : ¬ (j * 6 + 4 = i * 6 + 2) := by omega
  have n25 : ¬ (i * 6 + 2 = j * 6 + 5) := by omega
  have m25 : ¬ (j * 6 + 5 = i * 6 + 2) := by omega
  have n30 : ¬ (i * 6 + 3 = j * 6) := by omega
  have m30 : ¬ (j * 6 = i * 6 + 3) := by omega
  have n31 : ¬ (i * 6 + 3 = j * 6 + 1) := by omega
  have m31 : ¬ (j * 6 + 1 = i * 6 + 3) := by omega
  have n32 : ¬ (i * 6 + 3 = j * 6 + 2) := by omega
  have m32 : ¬ (j * 6 + 2 = i * 6 + 3) := by omega
  have n33 : ¬ (i * 6 + 3 = j * 6 + 3) := by omega
  have m33 : ¬ (j * 6 + 3 = i * 6 + 3) := by omega
  have n34 : ¬ (i * 6 + 3 = j * 6 + 4) := by omega
  have m34 : ¬ (j * 6 + 4 = i * 6 + 3) := by omega
  have n35 : ¬ (i * 6 + 3 = j * 6 + 5) := by omega
  have m35 : ¬ (j * 6 + 5 = i * 6 + 3) := by omega
  have n40 : ¬ (i * 6 + 4 = j * 6) := by omega
  have m40 : ¬ (j * 6 = i * 6 + 4) := by omega
  have n41 : ¬ (i * 6 + 4 = j * 6 + 1) := by omega
  have m41 : ¬ (j * 6 + 1 = i * 6 + 4) := by omega
  have n42 : ¬ (i * 6 + 4 = j * 6 + 2) := by omega
  have m42 : ¬ (j * 6 + 2 = i * 6 + 4) := by omega
  have n43 : ¬ (i * 6 + 4 = j * 6 + 3) := by omega
  have m43 : ¬ (j * 6 + 3 = i * 6 + 4) := by omega
  have n44 : ¬ (i * 6 + 4 = j * 6 + 4) := by omega
  have m44 : ¬ (j * 6 + 4 = i * 6 + 4) := by omega
  have n45 : ¬ (i * 6 + 4 = j * 6 + 5) := by omega
  have m45 : ¬ (j * 6 + 5 = i * 6 + 4) := by omega
  have n50 : ¬ (i * 6 + 5 = j * 6) := by omega
  have m50 : ¬ (j * 6 = i * 6 + 5) := by omega
  have n51 : ¬ (i * 6 + 5 = j * 6 + 1) := by omega
  have m51 : ¬ (j * 6 + 1 = i * 6 + 5) := by omega
  have n52 : ¬ (i * 6 + 5 = j * 6 + 2) := by omega
  have m52 : ¬ (j * 6 + 2 = i * 6 + 5) := by omega
  have n53 : ¬ (i * 6 + 5 = j * 6 + 3) := by omega
  have m53 : ¬ (j * 6 + 3 = i * 6 + 5) := by omega
  have n54 : ¬ (i * 6 + 5 = j * 6 + 4) := by omega
  have m54 : ¬ (j * 6 + 4 = i * 6 + 5) := by omega
  have n55 : ¬ (i * 6 + 5 = j * 6 + 5) := by omega
  have m55 : ¬ (j * 6 + 5 = i * 6 + 5) := by omega
  clear h hl
  go_enter Try.func81, Try.ntmps81
  go_wp2
  go_region
  all_goals go_end0
  all_goals exact ⟨rfl, rfl⟩

set_option maxRecDepth 100000 in
set_option maxHeartbeats 1000000 in
theorem Swap_one {w : World} {B g n c : Nat} {L : List Hdv} (h : w.ownsRow B 100 6 (.slice (some ⟨g, 0, none⟩) n c) n (encD L)) (hn : n ≤ 4398046511104) (hi : 0 < n) :
    Calls Try.prog 81 #[.slice (some ⟨g, 0, none⟩) n c, .int .i64 0, .int .i64 0] w fun e w' => e = .returned (.tuple #[]) ∧ w' = (setD (setD w g 0 (hdG L 0)) g 0 (hdG L 0)).drew := by
  have hl := own_lenD h
  obtain ⟨x0, x1, x2, x3, x4, x5⟩ := own_sixD h (hdG_get (L := L) (j := 0) (by omega))
  simp only [Nat.zero_mul, Nat.zero_add] at x0 x1 x2 x3 x4 x5
  have f0 := h.frozenAt 0
  have f1 := h.frozenAt 1
  have f2 := h.frozenAt 2
  have f3 := h.frozenAt 3
  have f4 := h.frozenAt 4
  have f5 := h.frozenAt 5
  generalize hdG L 0 = x at x0 x1 x2 x3 x4 x5 ⊢
  unfold setD
  simp only [Nat.zero_mul, Nat.zero_add]
  have i3 : (0 : Int) < (n : Int) := by omega
  clear h hl
  go_enter Try.func81, Try.ntmps81
  go_wp2
  go_region
  all_goals go_end0
  all_goals exact ⟨rfl, rfl⟩

theorem setD_heap (W : World) {g b : Nat} (k : Nat) (x : Hdv) (hne : b ≠ g) : (setD W g k x).heap[b]? = W.heap[b]? := by
  unfold setD
  rw [Below.heap_setCell _ _ _ _ hne, Below.heap_setCell _ _ _ _ hne, Below.heap_setCell _ _ _ _ hne, Below.heap_setCell _ _ _ _ hne, Below.heap_setCell _ _ _ _ hne, Below.heap_setCell _ _ _ _ hne]

theorem Fr.setD {a w : World} {S : List (Option Nat)} (h : Fr a w S) {g : Nat} (hp : g < a.heap.size → some g ∈ S) (k : Nat) (x : Hdv) : Fr a (setD w g k x) S := by
  unfold Proofs.Ytahdaccmokjgpaa.setD
  exact (((((h.setCell (p := ⟨g, _, none⟩) hp _).setCell (p := ⟨g, _, none⟩) hp _).setCell (p := ⟨g, _, none⟩) hp _).setCell (p := ⟨g, _, none⟩) hp _).setCell (p := ⟨g, _, none⟩) hp _).setCell (p := ⟨g, _, none⟩) hp _

/-- Two heads exchanged. -/
theorem PileD.swap {w : World} {B hb g n c : Nat} {L : List Hdv} (h : PileD w B hb (.slice (some ⟨g, 0, none⟩) n c) L) (hn : L.length = n) {i j : Nat} (hi : i < n) (hj : j < n) :
    PileD (setD (setD w g i (hdG L j)) g j (hdG L i)).drew B hb (.slice (some ⟨g, 0, none⟩) n c) (swpG L i j) ∧ PKeep hb w (.slice (some ⟨g, 0, none⟩) n c) (setD (setD w g i (hdG L j)) g j (hdG L i)).drew (.slice (some ⟨g, 0, none⟩) n c) := by
  have hr := h.row
  rw [hn] at hr
  have h1 := own_setD hr rfl i (hdG L j)
  have h2 := own_setD h1 rfl j (hdG L i)
  have hne : hb ≠ g := fun e => h.apart (by rw [e]; rfl)
  refine ⟨⟨?_, h.base, ?_⟩, ⟨?_, .inl rfl⟩⟩
  · rw [heap_drew, setD_heap _ _ _ hne, setD_heap _ _ _ hne]; exact h.box
  · rw [swpG_length, hn]; exact own_drew h2
  · exact Fr.drew ((((Fr.refl w _).setD (fun _ => by simp [Value.ownBlock]) _ _).setD (fun _ => by simp [Value.ownBlock]) _ _))

set_option maxRecDepth 100000 in
theorem least_calls {w : World} {B hb : Nat} {v : Value} {L : List Hdv} (h : PileD w B hb v L) (hl : 0 < L.length) (hn : L.length ≤ 4398046511104) :
    Calls Try.prog 82 #[.pointer (some ⟨hb, 0, none⟩)] w fun e w' => e = .returned (hdG L 0).val ∧ Below w.heap.size w w' := by
  obtain ⟨g, c, rfl⟩ := h.at hl
  obtain ⟨x0, x1, x2, x3, x4, x5⟩ := own_sixD h.row (hdG_get (L := L) (j := 0) hl)
  simp only [Nat.zero_mul, Nat.zero_add] at x0 x1 x2 x3 x4 x5
  obtain ⟨c0, _⟩ := h.cell
  have hlt := h.lt
  have hgl := cell_lt x0
  unfold Hdv.val
  generalize hdG L 0 = x at x0 x1 x2 x3 x4 x5 ⊢
  generalize L.length = n at c0 hl hn h ⊢
  have i3 : (0 : Int) < (n : Int) := by omega
  clear h
  go_enter Try.func82, Try.ntmps82
  go_wp2
  refine bodyPost_ret (v := .agg #[.int .i64 x.e.v, .string x.e.c, .int .i64 x.e.i, .int .i64 x.e.s, .bool x.e.d, .int .i64 x.n]) ?_ rfl ⟨rfl, (Below.refl _ w).alloc (Nat.le_refl _) _⟩
  rw [results_cell1 rfl]
  go_simp

/-- What Push leaves. -/
def PushPost (w : World) (B hb : Nat) (v : Value) (L : List Hdv) (x : Hdv) (e : Ending) (w' : World) : Prop :=
  e = .returned (.tuple #[]) ∧ ∃ v', PileD w' B hb v' (L ++ [x]) ∧ PKeep hb w v w' v'

set_option maxRecDepth 100000 in
set_option maxHeartbeats 1000000 in
theorem Push_calls {w : World} {B hb : Nat} {v : Value} {L : List Hdv} (h : PileD w B hb v L) (hn : L.length ≤ 1000000) (hB : B ≤ w.heap.size) (x : Hdv) :
    Calls Try.prog 80 #[.pointer (some ⟨hb, 0, none⟩), .iface 100 x.val] w (PushPost w B hb v L x) := by
  obtain ⟨i0, hi0, hz0, hz1, hz2⟩ := info_parts headinfo
  have hlt := h.lt
  have hap := h.apart
  have hta : ∀ (W : World) (a : Array Value), (Instr.typeAssert (.iface 100 (.agg a)) 20 100 true).run Try.prog W = .ok (.tuple #[.agg a, .bool true]) W := fun _ _ => by kernel_rfl
  have h0 := h.keep (Kp.of_below (B := B) (T := []) ((Below.refl w.heap.size w).alloc (Nat.le_refl _) (.cells #[.int .i64 x.e.v, .string x.e.c, .int .i64 x.e.i, .int .i64 x.e.s, .bool x.e.d, .int .i64 x.n] 100))) (by simp) (by simp)
  have b0 := World.alloc_heap_new w (.cells #[.int .i64 x.e.v, .string x.e.c, .int .i64 x.e.i, .int .i64 x.e.s, .bool x.e.d, .int .i64 x.n] 100)
  have hK : Fr w (w.alloc (.cells #[.int .i64 x.e.v, .string x.e.c, .int .i64 x.e.i, .int .i64 x.e.s, .bool x.e.d, .int .i64 x.n] 100)) [some hb, v.ownBlock] := (Fr.refl w _).alloc _
  have hs : (w.alloc (.cells #[.int .i64 x.e.v, .string x.e.c, .int .i64 x.e.i, .int .i64 x.e.s, .bool x.e.d, .int .i64 x.n] 100)).heap.size = w.heap.size + 1 := by simp
  have hnews := World.news_of_block (cs := #[.int .i64 x.e.v, .string x.e.c, .int .i64 x.e.i, .int .i64 x.e.s, .bool x.e.d, .int .i64 x.n]) (t := 100) (fr := (0, 0)) (heap_alloc_new w _)
  unfold Hdv.val
  go_enter Try.func80, Try.ntmps80
  go_wp2
  clear h
  generalize w.alloc (.cells #[.int .i64 x.e.v, .string x.e.c, .int .i64 x.e.i, .int .i64 x.e.s, .bool x.e.d, .int .i64 x.n] 100) = wb at h0 b0 hK hs hnews ⊢
  have hs1 : w.heap.size < wb.heap.size := by omega
  clear hs hnews
  obtain ⟨c0, c1⟩ := h0.cell
  have k0 : wb.cell? ⟨w.heap.size, 0, none⟩ = some (.int .i64 x.e.v) := by simp [World.cell?, b0]
  have k1 : wb.cell? ⟨w.heap.size, 1, none⟩ = some (.string x.e.c) := by simp [World.cell?, b0]
  have k2 : wb.cell? ⟨w.heap.size, 2, none⟩ = some (.int .i64 x.e.i) := by simp [World.cell?, b0]
  have k3 : wb.cell? ⟨w.heap.size, 3, none⟩ = some (.int .i64 x.e.s) := by simp [World.cell?, b0]
  have k4 : wb.cell? ⟨w.heap.size, 4, none⟩ = some (.bool x.e.d) := by simp [World.cell?, b0]
  have k5 : wb.cell? ⟨w.heap.size, 5, none⟩ = some (.int .i64 x.n) := by simp [World.cell?, b0]
  have c0a : ∀ o, (wb.alloc o).cell? ⟨hb, 0, none⟩ = some v := fun o => (World.cell?_alloc_lt _ _ ⟨hb, 0, none⟩ (cell_lt c0)).trans c0
  have hrow := h0.row
  have hbx := h0.box
  have HPost : Hid (∀ g cap w1, w1.ownsRow B 100 6 (.slice (some ⟨g, 0, none⟩) (L.length + 1) cap) (L.length + 1) (encD L ++ x.cells) → (wb.drew.alloc (.cells #[.int .i64 x.e.v, .string x.e.c, .int .i64 x.e.i, .int .i64 x.e.s, .bool x.e.d, .int .i64 x.n] 100)).grownBy w1 v.ownBlock → (v.ownBlock = some g ∨ g = wb.heap.size + 1) → PushPost w B hb v L x (.returned (.tuple #[])) (w1.setCell ⟨hb, 0, none⟩ (.slice (some ⟨g, 0, none⟩) (L.length + 1) cap))) := Lib.hid (by
    intro g cap w1 q1 q2 q3
    have hb1 : w1.heap[hb]? = some (.cells #[v] 84 (0, 0)) := (q2.block hb (by simp; omega) (fun e => hap e.symm)).trans ((Below.heap_alloc wb.drew _ hb (by simp; omega)).trans hbx)
    have hgh : g ≠ hb := by
      rcases q3 with e | e
      · intro e'; rw [e'] at e; exact hap e
      · omega
    refine ⟨rfl, .slice (some ⟨g, 0, none⟩) (L.length + 1) cap, ⟨?_, h0.base, ?_⟩, ?_⟩
    · simp [World.setCell, Array.getElem?_modify, hb1]
    · rw [encD_snoc, List.length_append, List.length_singleton]
      exact own_setCell q1 (p := ⟨hb, 0, none⟩) (fun e => hgh (Option.some.inj (show some g = some hb from e))) _
    · refine ⟨Fr.setCell (p := ⟨hb, 0, none⟩) (Fr.grown ((hK.drew).alloc _) q2 (fun k e _ => by rw [← e]; simp)) (fun _ => by simp) _, ?_⟩
      rcases q3 with e | e
      · exact .inl e.symm
      · exact .inr (fun g' hg' => by have : g = g' := Option.some.inj hg'; omega))
  have hvpb : some hb ≠ v.ownBlock := fun e => hap e.symm
  have hn6 : (L.length + 1) * 56 ≤ 140737488355328 := by omega
  clear b0 hK
  go_region_law
      ((refine step_append_lies _ (by rfl) _ _ _ (by rfl) B 100 i0 _ 6 56 Try.underlying84 hi0 hz0 hz1 hz2 rfl (by omega) v L.length (encD L) (by rfl) ((hrow.alloc _)) ⟨wb.heap.size, 0, none⟩ 1 1 x.cells (by rfl) (by rfl) (World.news_of_block (cs := #[.int .i64 x.e.v, .string x.e.c, .int .i64 x.e.i, .int .i64 x.e.s, .bool x.e.d, .int .i64 x.n]) (t := 100) (fr := (0, 0)) (heap_alloc_new wb _)) (by simp [Value.oneCell', Hdv.cells])
         (by omega) (by unfold maxLen; omega) hn6 (by simp; omega) (wb.heap.size + 1) (by simp) ?_; intro gg cap w1 hown1 hgrow hat hlt
        have d0 := (hgrow.block hb (by simp; omega) hvpb).trans ((Below.heap_alloc wb _ hb (by omega)).trans hbx)
        have d1 : w1.cell? ⟨hb, 0, none⟩ = some v := by simp [World.cell?, d0]
        have d2 : w1.frozen? ⟨hb, 0, none⟩ = false := by simp [World.frozen?, d0]))
  all_goals
    go_wp2_with fail
    go_end0
    exact HPost.out _ _ _ hown1 hgrow hat
end Go.Proofs.Ytahdaccmokjgpaa

/-
  WALKS: bits of a text: one bit; the iterator over bits; the number that bits make.
-/
import Derived.Test.YtldcfgifimdmmaaDoorProg
import Derived.Test.YtldcfgifimdmmaaDoorBitsP
import Derived.RangeFuncNested
import Derived.RangeFuncBound
import Derived.RangeFuncCalls
import Derived.RangeFuncLeaves
import Derived.RangeFuncBox
import Derived.Shelf.Abstract
import Derived.Shelf.RegionOpen
import Derived.WalkKit
import Derived.OwnWalkIn
import Derived.TacticsInMore
import Derived.LoopNIn
import Derived.LoopIn
import Derived.WalkLawsBesides
import Derived.Lib.Hide
import Derived.Outline
namespace Go.Proofs.YtldcfgifimdmmaaDoor
open Go.RowKit Go.Shelf
set_option linter.unusedVariables false

theorem and_one_i64 (a : Nat) (ha : a < 9223372036854775808) : bits .and .i64 (a : Int) 1 = ((a % 2 : Nat) : Int) := by
  have hx : a &&& 1 < 2 ^ 63 := Nat.and_lt_two_pow _ (by omega)
  have o1 : (BitVec.ofInt 64 (a : Int)).toNat = a := by rw [BitVec.ofInt_natCast, BitVec.toNat_ofNat]; exact Nat.mod_eq_of_lt (by omega)
  have o2 : (BitVec.ofInt 64 (1 : Int)).toNat = 1 := by decide
  show IntKind.i64.wrap ((BitVec.ofInt 64 (a : Int) &&& BitVec.ofInt 64 (1 : Int)).toNat : Int) = _
  rw [BitVec.toNat_and, o1, o2, nat_mask1, IntKind.wrap_i64]
  omega

set_option maxHeartbeats 1000000 in
theorem bit_calls (s : ByteArray) (hs : s.size ≤ 140737488351232) (i : Nat) (h : i < 8 * s.size) (w : World) :
    Calls Tryd.prog 24 #[.string s, .int .i64 i] w fun e w' => e = .returned (.int .i64 ((bitB s.data.toList i).toNat : Int)) ∧ w = w' := by
  have hi : i / 8 < s.size := by omega
  have hc := s[i / 8].toNat_lt
  obtain ⟨q, hqd⟩ : ∃ q, s[i / 8].toNat / 2 ^ (7 - i % 8) = q := ⟨_, rfl⟩
  have hq256 : q < 256 := by rw [← hqd]; exact Nat.lt_of_le_of_lt (Nat.div_le_self _ _) (by omega)
  have hq : ((s[i / 8].toNat : Int) / 2 ^ (7 - i % 8)) = (q : Int) := by rw [← hqd]; simp
  have hand := and_one_i64 q (by omega)
  have hfin : q % 2 = (bitB s.data.toList i).toNat := by
    rw [bitB_toNat, ← hqd]
    simp [List.getD, hi]; rfl
  rw [hfin] at hand
  clear hfin hqd
  go_enter Tryd.func24, Tryd.ntmps24
  go_wp2
  go_ret
  exact ⟨rfl, rfl⟩

attribute [local go_sem] Oper.semAt_some

/-- The blocks gs are as they were. -/
def KeepAt (gs : List Nat) (W W' : World) : Prop := ∀ g, g ∈ gs → W'.heap[g]? = W.heap[g]?
theorem KeepAt.refl (gs : List Nat) (W : World) : KeepAt gs W W := fun _ _ => rfl
theorem KeepAt.trans {gs : List Nat} {A B C : World} (h : KeepAt gs A B) (k : KeepAt gs B C) : KeepAt gs A C := fun g hg => (k g hg).trans (h g hg)
theorem KeepAt.cell {gs : List Nat} {A B : World} (h : KeepAt gs A B) {g : Nat} (hg : g ∈ gs) {v : Value} (hc : A.cell? ⟨g, 0, none⟩ = some v) : B.cell? ⟨g, 0, none⟩ = some v := (World.cell?_of_block (h g hg)).trans hc
theorem KeepAt.put {gs : List Nat} {B : Nat} (hgs : ∀ g, g ∈ gs → g < B) (W : World) (l : Nat) (o o' : Obj) (hl : B ≤ l) (_ : W.heap[l]? = some o) (_ : o.isCells = false) (_ : o.isWalk = false) : KeepAt gs W (W.putObj l o') :=
  fun g hg => World.putObj_heap_other (by have := hgs g hg; omega)
theorem KeepAt.setCell {gs : List Nat} {W : World} {p : Addr} (h : ∀ g, g ∈ gs → g ≠ p.block) (u : Value) : KeepAt gs W (W.setCell p u) := fun g hg => Below.heap_setCell W p u g (h g hg)
theorem KeepAt.alloc {gs : List Nat} {W : World} (h : ∀ g, g ∈ gs → g < W.heap.size) (o : Obj) : KeepAt gs W (W.alloc o) := fun g hg => Below.heap_alloc W o g (h g hg)
theorem KeepAt.below {gs : List Nat} {B : Nat} {W W' : World} (hb : Below B W W') (h : ∀ g, g ∈ gs → g < B) : KeepAt gs W W' := fun g hg => hb.block g (h g hg)
theorem KeepAt.grown {gs : List Nat} {W W' : World} {row : Option Nat} (hg : W.grownBy W' row) (h : ∀ g, g ∈ gs → g < W.heap.size ∧ some g ≠ row) : KeepAt gs W W' := fun g hm => hg.block g (h g hm).1 (h g hm).2

set_option maxRecDepth 100000 in
set_option maxHeartbeats 2000000 in
/-- The iterator's closure: the bits one by one, while the body goes on. -/
theorem run1_in (n : Nat) (hn : 1 ≤ n) (l Bf Bn Bs : Nat) (s : ByteArray) (f cnt : Nat) (hs : s.size ≤ 140737488351232) (hf : f + cnt ≤ 8 * s.size) (J Jx : List Bool → World → Prop)
    (hY : ∀ pre x W, J pre W → pre.length < cnt → YieldAt Fence.wide (n - 1) Tryd.prog l #[.int .i64 (x.toNat : Int)] W fun e W' =>
      (e = .returned (.bool true) ∧ J (pre ++ [x]) W' ∧ KeepAt [Bf, Bn, Bs] W W') ∨ (e = .returned (.bool false) ∧ Jx (pre ++ [x]) W'))
    (W : World) (hcf : W.cell? ⟨Bf, 0, none⟩ = some (.int .i64 f)) (hcn : W.cell? ⟨Bn, 0, none⟩ = some (.int .i64 cnt)) (hcs : W.cell? ⟨Bs, 0, none⟩ = some (.string s)) (h0 : J [] W) :
    CallsIn Fence.wide n Tryd.prog 33 #[.func (.yield l) #[] #[], .pointer (some ⟨Bf, 0, none⟩), .pointer (some ⟨Bn, 0, none⟩), .pointer (some ⟨Bs, 0, none⟩)] W fun e W' => (∃ v, e = .returned v) ∧
      ((∃ ys, ys = bitsOf s.data.toList f cnt ∧ J ys W') ∨ (∃ pre, (∃ k, k ≤ cnt ∧ pre = bitsOf s.data.toList f k) ∧ Jx pre W')) := by
  refine callsIn_of_wp Tryd.func33 rfl trivial ?_ rfl
  simp only [Tryd.ntmps33, List.size_toArray, List.length_cons, List.length_nil, Nat.reduceAdd, Nat.reduceSub, Array.replicate_succ, Array.replicate_zero, List.push_toArray, List.append_toArray, List.nil_append, List.cons_append]
  gi_wp2
  gi_loopw [5] (fun i wr => ∃ k : Nat, k ≤ cnt ∧ i = .int .i64 ((f + k : Nat) : Int) ∧ J (bitsOf s.data.toList f k) wr ∧ KeepAt [Bf, Bn, Bs] W wr)
    (fun i _ => f + cnt - (intOf i).toNat)
  case atStart => exact ⟨0, Nat.zero_le _, rfl, h0, KeepAt.refl _ _⟩
  case round =>
    obtain ⟨k, hk, rfl, hJs, hnx⟩ := hrel
    have hcf' := hnx.cell (g := Bf) (by simp) hcf
    have hcn' := hnx.cell (g := Bn) (by simp) hcn
    have hcs' := hnx.cell (g := Bs) (by simp) hcs
    obtain ⟨i, hi⟩ : ∃ i, f + k = i := ⟨_, rfl⟩
    rw [hi]
    have HI := Lib.hid hi
    by_cases hlt : k < cnt
    · have hib : i < f + cnt := by omega
      have hb := bitsOf_succ s.data.toList f k
      rw [hi] at hb
      have HB := Lib.hid hb
      obtain ⟨fn, tmps, assign, body, hy, hR⟩ := hY _ (bitB s.data.toList i) wr hJs (by rw [bitsOf_length]; exact hlt)
      clear hi hb
      gi_wp2_with (refine ⟨trivial, ?_⟩; gi_at_call 24; refine (callsIn_wide.2 (bit_calls s hs i (by omega) _)).mono ?_; rintro e w' ⟨rfl, rfl⟩)
      refine hR.mono ?_
      rintro e W3 (⟨rfl, hJ3, hk3⟩ | ⟨rfl, hJx3⟩)
      · gi_wp2
        go_roundw
        case rel => exact ⟨k + 1, by omega, by rw [← Nat.add_assoc, HI.out]; go_num, by rw [HB.out]; exact hJ3, hnx.trans hk3⟩
        case measure => simp [intOf]; omega
      · gi_wp2
        refine bodyPost_ret (results_none rfl _ _ _) rfl ?_
        exact ⟨⟨_, rfl⟩, .inr ⟨_, ⟨k + 1, by omega, HB.out.symm⟩, hJx3⟩⟩
    · obtain rfl : k = cnt := by omega
      subst hi
      have hge : ¬ (((f + k : Nat) : Int) < (f : Int) + (k : Int)) := by omega
      gi_wp2
      go_end0
      exact ⟨⟨_, rfl⟩, .inl hJs⟩

set_option maxRecDepth 100000 in
set_option maxHeartbeats 1000000 in
/-- run: its three arguments are boxed; the function value captures the boxes. -/
theorem run_calls (s : ByteArray) (f cnt : Int) (w : World) :
    Calls Tryd.prog 32 #[.string s, .int .i64 f, .int .i64 cnt] w fun e w' => e = .returned (.func (.func 33) #[] #[.pointer (some ⟨w.heap.size + 1, 0, none⟩), .pointer (some ⟨w.heap.size + 2, 0, none⟩), .pointer (some ⟨w.heap.size, 0, none⟩)]) ∧
      ((w.alloc (.cells #[.string s] 9)).alloc (.cells #[.int .i64 f] 3)).alloc (.cells #[.int .i64 cnt] 3) = w' := by
  go_enter Tryd.func32, Tryd.ntmps32
  go_wp2
  go_ret
  exact ⟨rfl, rfl⟩

/-- The iterator's contract. -/
theorem run_stops (n : Nat) (hn : 1 ≤ n) (Bf Bn Bs : Nat) (s : ByteArray) (f cnt : Nat) (hs : s.size ≤ 140737488351232) (hf : f + cnt ≤ 8 * s.size) (w : World)
    (hcf : w.cell? ⟨Bf, 0, none⟩ = some (.int .i64 f)) (hcn : w.cell? ⟨Bn, 0, none⟩ = some (.int .i64 cnt)) (hcs : w.cell? ⟨Bs, 0, none⟩ = some (.string s)) (hBf : Bf < w.heap.size) (hBn : Bn < w.heap.size) (hBs : Bs < w.heap.size) :
    SeqStopsK Fence.wide n Tryd.prog 33 #[.pointer (some ⟨Bf, 0, none⟩), .pointer (some ⟨Bn, 0, none⟩), .pointer (some ⟨Bs, 0, none⟩)] (fun x : Bool => #[Value.int .i64 (x.toNat : Int)]) (KeepAt [Bf, Bn, Bs])
      (fun ys => ys = bitsOf s.data.toList f cnt) (fun pre => ∃ k, k ≤ cnt ∧ pre = bitsOf s.data.toList f k) cnt w := fun l J Jx W hW _ _ hY h0 => by
  refine run1_in n hn l Bf Bn Bs s f cnt hs hf J Jx hY W ?_ ?_ ?_ h0
  · exact (hW.cell (p := ⟨Bf, 0, none⟩) hBf).trans hcf
  · exact (hW.cell (p := ⟨Bn, 0, none⟩) hBn).trans hcn
  · exact (hW.cell (p := ⟨Bs, 0, none⟩) hBs).trans hcs

theorem cell_new_l (W : World) (v : Value) (t : TypeId) : (W.alloc (.cells #[v] t)).cell? ⟨W.heap.size, 0, none⟩ = some v ∧ (W.alloc (.cells #[v] t)).frozen? ⟨W.heap.size, 0, none⟩ = false := ⟨by simp, by simp⟩
theorem cell_alloc_l {W : World} {a : Addr} {v : Value} (o : Obj) (h : W.cell? a = some v) : (W.alloc o).cell? a = some v := cell_kept h (World.grownBy_alloc W o none) (fun r e => by cases e)
theorem frozen_alloc_l {W : World} {a : Addr} {v : Value} (o : Obj) (h : W.cell? a = some v) (hf : W.frozen? a = false) : (W.alloc o).frozen? a = false := (frozen_kept h (World.grownBy_alloc W o none) (fun r e => by cases e)).trans hf

set_option maxRecDepth 100000 in
set_option maxHeartbeats 2000000 in
theorem number_in (n : Nat) (hn : 3 ≤ n) (s : ByteArray) (f cnt : Nat) (hs : s.size ≤ 140737488351232) (hf : f + cnt ≤ 8 * s.size) (hc64 : cnt ≤ 64) (w : World) :
    CallsIn Fence.wide n Tryd.prog 30 #[.string s, .int .i64 f, .int .i64 cnt] w fun e w' => e = .returned (.int .u64 (numOf (bitsOf s.data.toList f cnt) : Nat)) ∧ Below w.heap.size w w' := by
  have h1 : 1 ≤ n := by omega
  refine callsIn_of_wp_marks Tryd.func30 rfl trivial ?_ rfl
  simp only [Tryd.ntmps30, List.size_toArray, List.length_cons, List.length_nil, Nat.reduceAdd, Nat.reduceSub, Array.replicate_succ, Array.replicate_zero, List.push_toArray, List.append_toArray, List.nil_append, List.cons_append]
  gi_wp2_with (refine ⟨trivial, ?_⟩; gi_at_call 32; refine (callsIn_wide.2 (run_calls s f cnt _)).mono ?_; rintro e w' ⟨rfl, rfl⟩)
  obtain ⟨W0, hW0⟩ : ∃ W0, (((w.alloc (.cells #[.int .u64 0] 61)).alloc (.cells #[.string s] 9)).alloc (.cells #[.int .i64 (f : Int)] 3)).alloc (.cells #[.int .i64 (cnt : Int)] 3) = W0 := ⟨_, rfl⟩
  have hsz : W0.heap.size = w.heap.size + 4 := by rw [← hW0]; simp
  have c0 := cell_new_l w (.int .u64 0) 61
  have c1 := cell_new_l (w.alloc (.cells #[.int .u64 0] 61)) (.string s) 9
  have c2 := cell_new_l ((w.alloc (.cells #[.int .u64 0] 61)).alloc (.cells #[.string s] 9)) (.int .i64 (f : Int)) 3
  have c3 := cell_new_l (((w.alloc (.cells #[.int .u64 0] 61)).alloc (.cells #[.string s] 9)).alloc (.cells #[.int .i64 (f : Int)] 3)) (.int .i64 (cnt : Int)) 3
  simp only [World.size_alloc] at c1 c2 c3
  have hv : W0.cell? ⟨w.heap.size, 0, none⟩ = some (.int .u64 0) := by rw [← hW0]; exact cell_alloc_l _ (cell_alloc_l _ (cell_alloc_l _ c0.1))
  have hvf : W0.frozen? ⟨w.heap.size, 0, none⟩ = false := by
    rw [← hW0]
    exact frozen_alloc_l _ (cell_alloc_l _ (cell_alloc_l _ c0.1)) (frozen_alloc_l _ (cell_alloc_l _ c0.1) (frozen_alloc_l _ c0.1 c0.2))
  have hs0 : W0.cell? ⟨w.heap.size + 1, 0, none⟩ = some (.string s) := by rw [← hW0]; exact cell_alloc_l _ (cell_alloc_l _ c1.1)
  have hf0 : W0.cell? ⟨w.heap.size + 1 + 1, 0, none⟩ = some (.int .i64 f) := by rw [← hW0]; exact cell_alloc_l _ c2.1
  have hn0 : W0.cell? ⟨w.heap.size + 1 + 2, 0, none⟩ = some (.int .i64 cnt) := by rw [← hW0]; exact c3.1
  have hB0 : Below w.heap.size w W0 := by
    rw [← hW0]; exact ((((Below.refl _ w).alloc (Nat.le_refl _) _).alloc (by simp) _).alloc (by simp; omega) _).alloc (by simp; omega) _
  rw [hW0]
  clear hW0
  refine wpIn_rangeFunc_ownF rfl h1 (gf := 33) (lb := #[.pointer (some ⟨w.heap.size + 1 + 1, 0, none⟩), .pointer (some ⟨w.heap.size + 1 + 2, 0, none⟩), .pointer (some ⟨w.heap.size + 1, 0, none⟩)]) rfl trivial (enters_of Tryd.func33 (by kernel_rfl) rfl)
    (run_stops (n - 1) (by omega) _ _ _ s f cnt hs hf W0 hf0 hn0 hs0 (by omega) (by omega) (by omega)) KeepAt.trans (KeepAt.put (by simp; omega)) (Below.refl _ _) (fun _ => rfl)
    (fun pre W => (W.cell? ⟨w.heap.size, 0, none⟩ = some (.int .u64 (numOf pre : Nat)) ∧ W.frozen? ⟨w.heap.size, 0, none⟩ = false) ∧ Below w.heap.size w W)
    (fun _ _ _ => False)
    (OwnFrom.and (Own.from (fun s A B row hs hg hr => ⟨cell_kept hs.1 hg hr, (frozen_kept hs.1 hg hr).trans hs.2⟩) _) (ownFrom_below (Nat.le_refl _) (by omega)))
    (fun _ _ _ _ _ hs _ _ => hs)
    ⟨⟨hv, hvf⟩, hB0⟩
    (fun x => { tmps := #[.string s, .int .i64 f, .int .i64 cnt, undef, undef, undef, .int .u64 0, .pointer (some ⟨w.heap.size, 0, none⟩), .int .i64 (x.toNat : Int), .string s, .int .i64 f, .int .i64 cnt,
      .func (.func 33) #[] #[.pointer (some ⟨w.heap.size + 1 + 1, 0, none⟩), .pointer (some ⟨w.heap.size + 1 + 2, 0, none⟩), .pointer (some ⟨w.heap.size + 1, 0, none⟩)], .int .i64 (x.toNat : Int), undef, undef, undef, undef, undef, undef], defers := [] }) ?assign ?body ?done ?stop
  case assign =>
    intro l x W K hK
    gi_wp2
    exact hK
  case body =>
    rintro l pre x W ⟨⟨hc, hf⟩, hB⟩ hlen
    have hbd := numOf_lt pre
    have hp : 2 ^ pre.length ≤ 2 ^ 63 := Nat.pow_le_pow_right (by omega) (by omega)
    have h63 : (2 : Nat) ^ 63 = 9223372036854775808 := by decide
    obtain ⟨v, hv⟩ : ∃ v, numOf pre = v := ⟨_, rfl⟩
    rw [hv] at hbd hc
    have hv2 : v * 2 < 18446744073709551616 := by omega
    have hx1 : x.toNat ≤ 1 := by cases x <;> decide
    have hor : bits .or .u64 ((v : Int) * 2) (x.toNat : Int) = ((2 * v + x.toNat : Nat) : Int) := by
      rw [show (v : Int) * 2 = ((v * 2 : Nat) : Int) by omega, u64_or_nat _ _ hv2 (by omega), nat_join 1 (v * 2) x.toNat (by omega) (by omega), Nat.mul_comm]
    have HV := Lib.hid hv
    clear hbd hp h63 hv
    gi_wp2
    exact ⟨KeepsOthers.setCell _ _ _, KeepAt.setCell (p := ⟨w.heap.size, 0, none⟩) (by simp; omega) _, ⟨by rw [numOf_snoc, HV.out]; exact World.cell?_setCell_same' _ _ _ (by rw [hc]; rfl), by rw [World.frozen?_setCell]; exact hf⟩, hB.setCell (p := ⟨w.heap.size, 0, none⟩) (Nat.le_refl _) _⟩
  case done =>
    rintro D ys W hD rfl ⟨⟨hc, _⟩, hB⟩ hK
    gi_wp2
    refine ⟨by simp, .inl ⟨_, _, rfl, run_takeDeferred hK, ?_⟩⟩
    exact ⟨_, results_tmp rfl _ _ _, rfl, hB.trans (belowK_b (w := w) (Nat.le_refl _) W D _ _ (by omega) hK rfl rfl)⟩
  case stop =>
    rintro D c pre W _ _ h _
    exact h.elim

theorem number_calls (s : ByteArray) (f cnt : Nat) (hs : s.size ≤ 140737488351232) (hf : f + cnt ≤ 8 * s.size) (hc64 : cnt ≤ 64) (w : World) :
    Calls Tryd.prog 30 #[.string s, .int .i64 f, .int .i64 cnt] w fun e w' => e = .returned (.int .u64 (numOf (bitsOf s.data.toList f cnt) : Nat)) ∧ Below w.heap.size w w' :=
  callsIn_wide.1 (number_in 3 (Nat.le_refl _) s f cnt hs hf hc64 w)
end Go.Proofs.YtldcfgifimdmmaaDoor

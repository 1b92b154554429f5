/-
  WALK: an entry put into a list that rises (the law's own put).
-/
import Derived.Test.YtahdaccmokjgpaaLawLA
import Derived.Deep.RegionHeld3
namespace Go.Proofs.Ytahdaccmokjgpaa
open Go.RowKit ArgK
set_option linter.unusedVariables false

/-- How many stand ahead. -/
def ahead (L : List Ent) (e : Ent) : Nat := (L.takeWhile (fun x => decide (eless x e))).length

theorem ahead_le (L : List Ent) (e : Ent) : ahead L e ≤ L.length := (List.takeWhile_prefix _).length_le

theorem ahead_lt : ∀ {L : List Ent} {e : Ent} {j : Nat} {x : Ent}, j < ahead L e → L[j]? = some x → eless x e
  | [], e, j, x, h, hx => by simp at hx
  | y :: L, e, j, x, h, hx => by
    unfold ahead at h
    rw [List.takeWhile_cons] at h
    by_cases hy : eless y e
    · simp only [hy, decide_true, if_true, List.length_cons] at h
      cases j with
      | zero => simp at hx; subst hx; exact hy
      | succ j => exact ahead_lt (L := L) (j := j) (by unfold ahead; omega) (by simpa using hx)
    · simp [hy] at h

theorem ahead_stop : ∀ {L : List Ent} {e : Ent} {x : Ent}, L[ahead L e]? = some x → ¬ eless x e
  | [], e, x, hx => by simp at hx
  | y :: L, e, x, hx => by
    by_cases hy : eless y e
    · have h1 : ahead (y :: L) e = ahead L e + 1 := by unfold ahead; rw [List.takeWhile_cons]; simp [hy]
      rw [h1, List.getElem?_cons_succ] at hx
      exact ahead_stop hx
    · have h1 : ahead (y :: L) e = 0 := by unfold ahead; rw [List.takeWhile_cons]; simp [hy]
      rw [h1] at hx
      simp at hx
      subst hx
      exact hy

theorem ahead_eq {L : List Ent} {e : Ent} {k : Nat} (h1 : ∀ j x, j < k → L[j]? = some x → eless x e) (hk : k ≤ L.length) (h2 : ∀ x, L[k]? = some x → ¬ eless x e) : ahead L e = k := by
  rcases Nat.lt_trichotomy (ahead L e) k with h | h | h
  · obtain ⟨x, hx⟩ : ∃ x, L[ahead L e]? = some x := ⟨_, List.getElem?_eq_getElem (by omega)⟩
    exact absurd (h1 _ x h hx) (ahead_stop hx)
  · exact h
  · have := ahead_le L e
    obtain ⟨x, hx⟩ : ∃ x, L[k]? = some x := ⟨_, List.getElem?_eq_getElem (by omega)⟩
    exact absurd (ahead_lt h hx) (h2 x hx)

/-- An entry at its place. -/
def insL (L : List Ent) (e : Ent) : List Ent := L.take (ahead L e) ++ [e] ++ L.drop (ahead L e)

/-- Its place is there. -/
def there (L : List Ent) (e : Ent) : Prop := ∃ x, L[ahead L e]? = some x ∧ eat x e

/-- What put leaves. -/
def PutPost (w : World) (v : Value) (L : List Ent) (e : Ent) (en : Ending) (w' : World) : Prop :=
  Below w.heap.size w w' ∧ ((there L e ∧ en = .returned (.tuple #[v, .bool false])) ∨ (¬ there L e ∧ ∃ v', en = .returned (.tuple #[v', .bool true]) ∧ w'.ownsRow w.heap.size 24 5 v' (L.length + 1) (encE (insL L e))))

theorem encE_take2 (L : List Ent) (j : Nat) : (encE L).take (j * 5) = encE (L.take j) := by
  have h := List.take_append_drop j L
  conv => lhs; rw [← h, encE_append]
  by_cases hj : j ≤ L.length
  · rw [List.take_left' (by rw [encE_length, List.length_take, Nat.min_eq_left hj])]
  · rw [List.take_of_length_le (Nat.le_of_lt (Nat.lt_of_not_le hj)), List.drop_eq_nil_of_le (Nat.le_of_lt (Nat.lt_of_not_le hj))]
    simp only [encE_nil, List.append_nil]
    rw [List.take_of_length_le (by rw [encE_length]; omega)]

theorem encE_mem_one {L : List Ent} : ∀ u ∈ encE L, u.oneCell' = true := by
  intro u hu
  unfold encE at hu
  obtain ⟨x, _, hx⟩ := List.mem_flatMap.1 hu
  simp only [Ent.cells, List.mem_cons, List.not_mem_nil, or_false] at hx
  rcases hx with rfl | rfl | rfl | rfl | rfl <;> rfl

/-- Cells of a part of a list, where the list lies at the head of its block. -/
theorem part_src {W : World} {g n k : Nat} {L : List Ent} (h : ∀ j, j < n * 5 → W.cell? ⟨g, j, none⟩ = (encE L)[j]?) (hn : L.length = n) (hk : k ≤ n) :
    (∀ j u, (encE (L.take k))[j]? = some u → ∃ a : Addr, some (⟨g, 0, none⟩ : Addr) = some a ∧ W.cell? (a.add j) = some u) ∧ (∀ j u, (encE (L.drop k))[j]? = some u → ∃ a : Addr, some (⟨g, k * 5, none⟩ : Addr) = some a ∧ W.cell? (a.add j) = some u) := by
  refine ⟨fun j u hu => ⟨_, rfl, ?_⟩, fun j u hu => ⟨_, rfl, ?_⟩⟩
  · have hj := (List.getElem?_eq_some_iff.1 hu).1
    rw [encE_length, List.length_take] at hj
    rw [show (⟨g, 0, none⟩ : Addr).add j = ⟨g, j, none⟩ by unfold Addr.add; split <;> simp_all, h j (by omega)]
    rw [← encE_take2, List.getElem?_take] at hu
    split at hu
    · exact hu
    · cases hu
  · have hj := (List.getElem?_eq_some_iff.1 hu).1
    rw [encE_length, List.length_drop] at hj
    rw [show (⟨g, k * 5, none⟩ : Addr).add j = ⟨g, k * 5 + j, none⟩ by unfold Addr.add; split <;> simp_all, h (k * 5 + j) (by omega)]
    rw [← encE_drop, List.getElem?_drop] at hu
    exact hu

theorem own_cap {w : World} {base : Nat} {e : TypeId} {size : Nat} {p : Option Addr} {n c : Nat} {xs : List Value} (h : w.ownsRow base e size (.slice p n c) n xs) : n ≤ c := by
  obtain ⟨q, d, he, h1, _⟩ := own_rd h
  simp only [Value.slice.injEq] at he
  omega

theorem put_fin {w W : World} {v : Value} {L : List Ent} {e : Ent} {k n : Nat} {v3 : Value} (hn : L.length = n) (hk : k ≤ n) (ha : ahead L e = k) (ht : ¬ there L e) (hb : Below w.heap.size w W) (ho : W.ownsRow w.heap.size 24 5 v3 (k + 1 + (n - k)) (encE (L.take k) ++ (e.cells ++ encE (L.drop k)))) : PutPost w v L e (.returned (.tuple #[v3, .bool true])) W := by
  refine ⟨hb, .inr ⟨ht, v3, rfl, ?_⟩⟩
  unfold insL
  rw [ha, encE_append, encE_snoc, List.append_assoc, hn, show n + 1 = k + 1 + (n - k) by omega]
  exact ho

set_option maxRecDepth 100000 in
set_option maxHeartbeats 2000000 in
theorem lput_calls {w : World} {base : Nat} {v : Value} {L : List Ent} (e : Ent) (hv : w.ownsRow base 24 5 v L.length (encE L)) (hn : L.length ≤ 4294967296) :
    Calls Try.prog 43 #[v, e.val] w (PutPost w v L e) := by
  obtain ⟨i0, hi0, hz0, hz1, hz2⟩ := info_parts entinfo
  obtain ⟨p, c, rfl, hnc, hcm, hr⟩ := own_rd hv
  have hpn : p = none → L.length = 0 ∧ c = 0 := fun h => by
    subst h
    rcases hv.2 with ⟨h1, _⟩ | ⟨g, cap, cur, h1, _⟩
    · simp at h1
      exact ⟨by simp [h1.1], h1.2⟩
    · simp at h1
  obtain ⟨n, hln⟩ : ∃ n, L.length = n := ⟨_, rfl⟩
  have HLN := Lib.hid hln
  have HV := Lib.hid hv
  have HR := Lib.hid hr
  have HPN := Lib.hid hpn
  rw [hln] at hnc hn
  clear hv hr hpn
  have e0 := World.alloc_heap_new w (eBlk e)
  have HE0 := Lib.hid e0
  obtain ⟨z0, z1, z2, z3, z4⟩ := eBlk_cells e0
  have hb0 := (Below.refl w.heap.size w).alloc (Nat.le_refl _) (eBlk e)
  have HB0 := Lib.hid hb0
  clear e0 hb0
  rw [hln]
  clear hln
  unfold Ent.val
  unfold eBlk at z0 z1 z2 z3 z4
  go_enter Try.func43, Try.ntmps43
  go_wp2
  go_loopw [6] (fun i wr => ∃ k : Nat, k ≤ n ∧ i = .int .i64 k ∧ Hid (∀ (j : Nat) (x : Ent), j < k → L[j]? = some x → eless x e) ∧ Below (w.alloc (eBlk e)).heap.size (w.alloc (eBlk e)) wr) (fun i _ => n - (intOf i).toNat)
  case atStart => exact ⟨0, Nat.zero_le _, rfl, Lib.hid (fun j x hj => by omega), Below.refl _ _⟩
  case round =>
    obtain ⟨k, hk, rfl, HZ, hbl⟩ := hrel
    have hs0 : (w.alloc (eBlk e)).heap.size = w.heap.size + 1 := by simp
    have hez : wr.heap[w.heap.size]? = some (eBlk e) := (hbl.block _ (by omega)).trans HE0.out
    by_cases hlt : k < n
    · obtain ⟨x, hx⟩ : ∃ x, L[k]? = some x := ⟨_, List.getElem?_eq_getElem (by rw [HLN.out]; exact hlt)⟩
      obtain ⟨g, hpg, _, hgl, hcs, _⟩ := HR.out (by rw [HLN.out]; omega)
      subst hpg
      have hxc : ∀ j, j < 5 → wr.cell? ⟨g, k * 5 + j, none⟩ = x.cells[j]? := fun j hj => by
        have h1 := (World.cell?_of_block (a := ⟨g, k * 5 + j, none⟩) (hbl.block g (by omega))).trans (World.cell?_of_block (a := ⟨g, k * 5 + j, none⟩) (Below.heap_alloc w (eBlk e) g hgl))
        rw [h1, hcs _ (by rw [HLN.out]; omega)]
        exact encE_get L k x hx j hj
      have HKeep : Hid (∀ W, Below wr.heap.size wr W → W.cell? ⟨g, k * 5, none⟩ = some (.int .i64 x.v) ∧ W.cell? ⟨g, k * 5 + 1, none⟩ = some (.string x.c) ∧ W.cell? ⟨g, k * 5 + 2, none⟩ = some (.int .i64 x.i) ∧ W.cell? ⟨g, k * 5 + 3, none⟩ = some (.int .i64 x.s) ∧ W.cell? ⟨g, k * 5 + 4, none⟩ = some (.bool x.d) ∧ W.cell? ⟨w.heap.size, 0, none⟩ = some (.int .i64 e.v) ∧ W.cell? ⟨w.heap.size, 1, none⟩ = some (.string e.c) ∧ W.cell? ⟨w.heap.size, 2, none⟩ = some (.int .i64 e.i) ∧ W.cell? ⟨w.heap.size, 3, none⟩ = some (.int .i64 e.s) ∧ W.cell? ⟨w.heap.size, 4, none⟩ = some (.bool e.d)) := Lib.hid (fun W hW => by
        have hwl : g < wr.heap.size := cell_lt (hxc 0 (by decide))
        have hel : w.heap.size < wr.heap.size := (Array.getElem?_eq_some_iff.1 hez).1
        have q := hW.block g hwl
        have q2 := eBlk_cells ((hW.block _ hel).trans hez)
        exact ⟨(World.cell?_of_block q).trans (hxc 0 (by decide)), (World.cell?_of_block q).trans (hxc 1 (by decide)), (World.cell?_of_block q).trans (hxc 2 (by decide)), (World.cell?_of_block q).trans (hxc 3 (by decide)), (World.cell?_of_block q).trans (hxc 4 (by decide)), q2⟩)
      obtain ⟨x0, x1, x2, x3, x4, y0, y1, y2, y3, y4⟩ := HKeep.out wr (Below.refl _ _)
      have i0' : (0 : Int) ≤ (k : Int) := by omega
      have i1' : (k : Int) < (n : Int) := by omega
      have HCM : Hid (∀ W : World, Calls Try.prog 33 #[x.val, e.val] W fun e' w' => e' = .returned (.bool (decide (eless x e))) ∧ Below W.heap.size W w') := Lib.hid (fun W => less_calls x e W)
      have HCA : Hid (∀ W : World, Calls Try.prog 42 #[x.val, e.val] W fun e' w' => e' = .returned (.bool (decide (eat x e))) ∧ Below W.heap.size W w') := Lib.hid (fun W => at_calls x e W)
      unfold Ent.val at HCM HCA
      have HBL := Lib.hid hbl
      clear hxc hcs hez hbl z0 z1 z2 z3 z4
      by_cases hlx : eless x e
      · have HZ2 : Hid (∀ (j : Nat) (y : Ent), j < k + 1 → L[j]? = some y → eless y e) := Lib.hid (fun j y hj hy => by
          rcases Nat.lt_or_ge j k with h | h
          · exact HZ.out j y h hy
          · obtain rfl : j = k := by omega
            rw [hx] at hy; cases hy; exact hlx)
        simp only [hlx, decide_true] at HCM
        clear hx hlx
        go_wp2
        go_region_held3 (fun W => W.cell? ⟨g, k * 5, none⟩ = some (.int .i64 x.v) ∧ W.cell? ⟨g, k * 5 + 1, none⟩ = some (.string x.c) ∧ W.cell? ⟨g, k * 5 + 2, none⟩ = some (.int .i64 x.i) ∧ W.cell? ⟨g, k * 5 + 3, none⟩ = some (.int .i64 x.s) ∧ W.cell? ⟨g, k * 5 + 4, none⟩ = some (.bool x.d) ∧ W.cell? ⟨w.heap.size, 0, none⟩ = some (.int .i64 e.v) ∧ W.cell? ⟨w.heap.size, 1, none⟩ = some (.string e.c) ∧ W.cell? ⟨w.heap.size, 2, none⟩ = some (.int .i64 e.i) ∧ W.cell? ⟨w.heap.size, 3, none⟩ = some (.int .i64 e.s) ∧ W.cell? ⟨w.heap.size, 4, none⟩ = some (.bool e.d)) (first | exact ⟨x0, x1, x2, x3, x4, y0, y1, y2, y3, y4⟩ | exact HKeep.out _ (below_of_drew hb1)) (first | (go_at_call 33; refine (HCM.out _).mono ?_; rintro e' w2 ⟨rfl, hb1⟩))
        have HB2 : Hid (Below (w.alloc (eBlk e)).heap.size (w.alloc (eBlk e)) w2) := Lib.hid (HBL.out.trans ((below_of_drew hb1).mono HBL.out.size))
        clear hb1
        go_wp2
        go_roundw
        case rel => exact ⟨k + 1, by omega, by go_num, HZ2, HB2.out⟩
        case measure => simp [intOf]; omega
      · simp only [hlx, decide_false] at HCM
        have hah : ahead L e = k := ahead_eq HZ.out (by rw [HLN.out]; exact hk) (fun y hy => by rw [hx] at hy; cases hy; exact hlx)
        have HAh := Lib.hid hah
        have HX := Lib.hid hx
        have hcs2 := fun j (hj : j < L.length * 5) => (show w.cell? ⟨g, j, none⟩ = (encE L)[j]? from by obtain ⟨g', e', _, _, h', _⟩ := HR.out (by rw [HLN.out]; omega); cases e'; exact h' j hj)
        have HCS := Lib.hid hcs2
        clear hx hlx hah hcs2
        go_wp2
        go_region_held3 (fun W => W.cell? ⟨g, k * 5, none⟩ = some (.int .i64 x.v) ∧ W.cell? ⟨g, k * 5 + 1, none⟩ = some (.string x.c) ∧ W.cell? ⟨g, k * 5 + 2, none⟩ = some (.int .i64 x.i) ∧ W.cell? ⟨g, k * 5 + 3, none⟩ = some (.int .i64 x.s) ∧ W.cell? ⟨g, k * 5 + 4, none⟩ = some (.bool x.d) ∧ W.cell? ⟨w.heap.size, 0, none⟩ = some (.int .i64 e.v) ∧ W.cell? ⟨w.heap.size, 1, none⟩ = some (.string e.c) ∧ W.cell? ⟨w.heap.size, 2, none⟩ = some (.int .i64 e.i) ∧ W.cell? ⟨w.heap.size, 3, none⟩ = some (.int .i64 e.s) ∧ W.cell? ⟨w.heap.size, 4, none⟩ = some (.bool e.d)) (first | exact ⟨x0, x1, x2, x3, x4, y0, y1, y2, y3, y4⟩ | exact HKeep.out _ (below_of_drew hb1)) (first | (go_at_call 33; refine (HCM.out _).mono ?_; rintro e' w2 ⟨rfl, hb1⟩))
        have HB2 : Hid (Below wr.heap.size wr w2) := Lib.hid (below_of_drew hb1)
        clear x0 x1 x2 x3 x4 y0 y1 y2 y3 y4 hb1
        obtain ⟨x0, x1, x2, x3, x4, y0, y1, y2, y3, y4⟩ := HKeep.out w2 HB2.out
        by_cases hat : eat x e
        · have HEnd : Hid (∀ W, Below wr.heap.size wr W → PutPost w (.slice (some ⟨g, 0, none⟩) n c) L e (.returned (.tuple #[.slice (some ⟨g, 0, none⟩) n c, .bool false])) W) := Lib.hid (fun W hW => ⟨HB0.out.trans ((HBL.out.trans (hW.mono HBL.out.size)).mono HB0.out.size), .inl ⟨⟨x, by rw [HAh.out]; exact HX.out, hat⟩, rfl⟩⟩)
          simp only [hat, decide_true] at HCA
          clear hat
          go_wp2
          go_region_held3 (fun W => W.cell? ⟨g, k * 5, none⟩ = some (.int .i64 x.v) ∧ W.cell? ⟨g, k * 5 + 1, none⟩ = some (.string x.c) ∧ W.cell? ⟨g, k * 5 + 2, none⟩ = some (.int .i64 x.i) ∧ W.cell? ⟨g, k * 5 + 3, none⟩ = some (.int .i64 x.s) ∧ W.cell? ⟨g, k * 5 + 4, none⟩ = some (.bool x.d) ∧ W.cell? ⟨w.heap.size, 0, none⟩ = some (.int .i64 e.v) ∧ W.cell? ⟨w.heap.size, 1, none⟩ = some (.string e.c) ∧ W.cell? ⟨w.heap.size, 2, none⟩ = some (.int .i64 e.i) ∧ W.cell? ⟨w.heap.size, 3, none⟩ = some (.int .i64 e.s) ∧ W.cell? ⟨w.heap.size, 4, none⟩ = some (.bool e.d)) (first | exact ⟨x0, x1, x2, x3, x4, y0, y1, y2, y3, y4⟩ | exact HKeep.out _ (HB2.out.trans ((below_of_drew hb3).mono HB2.out.size))) (first | (go_at_call 42; refine (HCA.out _).mono ?_; rintro e' w3 ⟨rfl, hb3⟩))
          have HB3 : Hid (Below wr.heap.size wr w3) := Lib.hid (HB2.out.trans ((below_of_drew hb3).mono HB2.out.size))
          clear hb3
          go_wp2
          first | go_ret2 | skip
          exact HEnd.out _ HB3.out
        · have HTh : Hid (¬ there L e) := Lib.hid (fun ⟨y, hy, h⟩ => hat (by rw [HAh.out, HX.out] at hy; cases hy; exact h))
          simp only [hat, decide_false] at HCA
          clear hat
          go_wp2
          go_region_held3 (fun W => W.cell? ⟨g, k * 5, none⟩ = some (.int .i64 x.v) ∧ W.cell? ⟨g, k * 5 + 1, none⟩ = some (.string x.c) ∧ W.cell? ⟨g, k * 5 + 2, none⟩ = some (.int .i64 x.i) ∧ W.cell? ⟨g, k * 5 + 3, none⟩ = some (.int .i64 x.s) ∧ W.cell? ⟨g, k * 5 + 4, none⟩ = some (.bool x.d) ∧ W.cell? ⟨w.heap.size, 0, none⟩ = some (.int .i64 e.v) ∧ W.cell? ⟨w.heap.size, 1, none⟩ = some (.string e.c) ∧ W.cell? ⟨w.heap.size, 2, none⟩ = some (.int .i64 e.i) ∧ W.cell? ⟨w.heap.size, 3, none⟩ = some (.int .i64 e.s) ∧ W.cell? ⟨w.heap.size, 4, none⟩ = some (.bool e.d)) (first | exact ⟨x0, x1, x2, x3, x4, y0, y1, y2, y3, y4⟩ | exact HKeep.out _ (HB2.out.trans ((below_of_drew hb3).mono HB2.out.size))) (first | (go_at_call 42; refine (HCA.out _).mono ?_; rintro e' w3 ⟨rfl, hb3⟩))
          have HB3 : Hid (Below wr.heap.size wr w3) := Lib.hid (HB2.out.trans ((below_of_drew hb3).mono HB2.out.size))
          clear hb3 x0 x1 x2 x3 x4 y0 y1 y2 y3 y4
          obtain ⟨W, rfl⟩ : ∃ W : World, W = w3 := ⟨_, rfl⟩
          have hBA : Below (w.alloc (eBlk e)).heap.size (w.alloc (eBlk e)) W := HBL.out.trans (HB3.out.mono HBL.out.size)
          have hcs := HCS.out
          have hBW : Below w.heap.size w W := HB0.out.trans (hBA.mono HB0.out.size)
          have hsW := hBW.size
          have hgc : ∀ j, j < n * 5 → W.cell? ⟨g, j, none⟩ = (encE L)[j]? := fun j hj => by
            rw [World.cell?_of_block (a := ⟨g, j, none⟩) (hBW.block g hgl)]
            exact hcs j (by rw [HLN.out]; exact hj)
          have HSrc := Lib.hid (part_src hgc HLN.out hk).1
          have HGC := Lib.hid hgc
          have hle : (encE (L.take k)).length = k * 5 := by rw [encE_length, List.length_take, HLN.out, Nat.min_eq_left hk]
          have HLE := Lib.hid hle
          have HBW := Lib.hid hBW
          have hewW : W.heap[w.heap.size]? = some (eBlk e) := (hBA.block _ (by simp)).trans HE0.out
          have HEW := Lib.hid hewW
          have hswl : w.heap.size < W.heap.size := (Array.getElem?_eq_some_iff.1 hewW).1
          have q1 : (k : Int) ≤ (c : Int) := by omega
          have q2 : (0 : Int) ≤ (k : Int) := by omega
          have q3 : k ≤ c := by omega
          have chk1 : 0 + k ≤ maxLen := by unfold maxLen; omega
          have chk2 : (0 + k) * 48 ≤ 140737488355328 := by omega
          clear hgc hle hBW hBA hewW
          go_wp2_with (at_builtin; refine wpList_append_opt rfl _ _ 25 rfl w.heap.size 24 i0 _ 5 48 Try.underlying25 hi0 hz0 hz1 hz2 rfl (by decide) _ 0 [] rfl own_none (some ⟨g, 0, none⟩) k c (encE (L.take k)) rfl (fun h => by cases h) HLE.out HSrc.out encE_mem_one chk1 chk2 hsW ?_)
          intro v1 w4 hown4 hg4
          have hown4 : w4.ownsRow w.heap.size 24 5 v1 k (encE (L.take k)) := by simpa using hown4
          have hb4 : Below W.heap.size W w4 := ⟨hg4.os, hg4.tape, hg4.output, hg4.size, fun j hj => hg4.block j hj (by simp [Value.ownBlock])⟩
          have hs4 := hb4.size
          obtain ⟨u0, u1, u2, u3, u4⟩ := eBlk_cells ((hb4.block _ hswl).trans HEW.out)
          obtain ⟨p1, c1, rfl, _, _, _⟩ := own_rd hown4
          have HB4 := Lib.hid (HBW.out.trans (hb4.mono hsW))
          have HW4 := Lib.hid (fun j (hj : j < n * 5) => (World.cell?_of_block (a := ⟨g, j, none⟩) (hb4.block g (Nat.lt_of_lt_of_le hgl hsW))).trans (HGC.out j hj))
          have hva := hown4.alloc (.cells #[.int .i64 e.v, .string e.c, .int .i64 e.i, .int .i64 e.s, .bool e.d] 24)
          have hnews := World.news_of_block (cs := #[.int .i64 e.v, .string e.c, .int .i64 e.i, .int .i64 e.s, .bool e.d]) (t := 24) (fr := (0, 0)) (heap_alloc_new w4 (.cells #[.int .i64 e.v, .string e.c, .int .i64 e.i, .int .i64 e.s, .bool e.d] 24))
          have hlo : ∀ g', (Value.slice p1 k c1).ownBlock = some g' → w.heap.size ≤ g' := fun g' hg' => (hown4.lt g' hg').1
          have HLO := Lib.hid hlo
          have chk5 : k + 1 ≤ maxLen := by unfold maxLen; omega
          have chk6 : (k + 1) * 48 ≤ 140737488355328 := by omega
          have chk7 : w.heap.size ≤ (w4.alloc (.cells #[.int .i64 e.v, .string e.c, .int .i64 e.i, .int .i64 e.s, .bool e.d] 24)).heap.size := by simp; omega
          have chk8 : ∀ u ∈ e.cells, u.oneCell' = true := by simp [Value.oneCell', Ent.cells]
          clear hown4 hg4 hb4 hlo
          go_wp2_with (at_builtin; refine wpList_append_lies _ rfl _ _ _ rfl w.heap.size 24 i0 _ 5 48 Try.underlying25 hi0 hz0 hz1 hz2 rfl (by decide) (.slice p1 k c1) k _ rfl hva ⟨w4.heap.size, 0, none⟩ 1 1 e.cells rfl rfl hnews chk8 (by decide) chk5 chk6 chk7 (w4.heap.size + 1) (by simp) ?_)
          intro g2 cap2 w5 hown5 hgrow5 hat5 hlt5
          have hb5 : Below w.heap.size w4 w5 := ⟨hgrow5.os, hgrow5.tape, hgrow5.output, by have := hgrow5.size; simp at this; omega, fun j hj => (hgrow5.block j (by simp; omega) (fun e' => by have := HLO.out j e'.symm; omega)).trans (Below.heap_alloc _ _ _ (by omega))⟩
          have HB5 := Lib.hid (HB4.out.trans hb5)
          have hs5 := hb5.size
          have HW5 : Hid (∀ j, j < n * 5 → w5.cell? ⟨g, j, none⟩ = (encE L)[j]?) := Lib.hid (fun j hj => (World.cell?_of_block (a := ⟨g, j, none⟩) (hb5.block g hgl)).trans (HW4.out j hj))
          have HO5 := Lib.hid hown5
          have hle2 : (encE (L.drop k)).length = (n - k) * 5 := by rw [encE_length, List.length_drop, HLN.out]
          have HLE2 := Lib.hid hle2
          have chkA : k + 1 + (n - k) ≤ maxLen := by unfold maxLen; omega
          have chkB : (k + 1 + (n - k)) * 48 ≤ 140737488355328 := by omega
          have chkC : w.heap.size ≤ w5.heap.size := by omega
          have hlo5 : g2 ≥ w.heap.size := (hown5.lt g2 rfl).1
          clear hown5 hgrow5 hat5 hlt5 hva hnews hb5 hle2 u0 u1 u2 u3 u4
          have hkc2 : ¬ (c ≤ k) := by omega
          have HSrc2 := Lib.hid (part_src HW5.out HLN.out hk).2
          go_wp2_with (at_builtin; refine wpList_append_opt rfl _ _ 25 rfl w.heap.size 24 i0 _ 5 48 Try.underlying25 hi0 hz0 hz1 hz2 rfl (by decide) _ (k + 1) _ rfl HO5.out (some ⟨g, k * 5, none⟩) (n - k) _ (encE (L.drop k)) rfl (fun h => by cases h) HLE2.out HSrc2.out encE_mem_one chkA chkB chkC ?_)
          intro v3 w6 hown6 hg6
          have HF := Lib.hid (put_fin (v := .slice (some ⟨g, 0, none⟩) n c) HLN.out hk HAh.out HTh.out (HB5.out.trans (⟨hg6.os, hg6.tape, hg6.output, hg6.size, fun j hj => hg6.block j (by omega) (fun e' => by have : g2 = j := (Option.some.inj e').symm; omega)⟩ : Below w.heap.size w5 w6)) hown6)
          clear hown6 hg6
          go_wp2
          first | go_ret2 | skip
          exact HF.out
    · obtain rfl : k = n := by omega
      have hah : ahead L e = k := ahead_eq HZ.out (by rw [HLN.out]; exact hk) (fun y hy => by
        have := (List.getElem?_eq_some_iff.1 hy).1
        rw [HLN.out] at this
        omega)
      have HAh := Lib.hid hah
      have HTh : Hid (¬ there L e) := Lib.hid (fun ⟨y, hy, _⟩ => by
        have := (List.getElem?_eq_some_iff.1 hy).1
        rw [HLN.out, hah] at this
        omega)
      have hBA0 := hbl
      clear hah hbl z0 z1 z2 z3 z4
      rcases HV.out.2 with ⟨hv1, _⟩ | ⟨g, cap, cur, hv1, _, hv2, _⟩
      · simp only [Value.slice.injEq] at hv1
        obtain ⟨rfl, hk0, rfl⟩ := hv1
        obtain rfl : k = 0 := by rw [← HLN.out]; exact hk0
        have hLn : L = [] := List.eq_nil_of_length_eq_zero hk0
        obtain ⟨u0, u1, u2, u3, u4⟩ := eBlk_cells hez
        have HBA := Lib.hid hBA0
        have HEZ := Lib.hid hez
        clear hez hk0 hBA0
        subst hLn
        have chk5 : 0 + 1 ≤ maxLen := by unfold maxLen; omega
        have chk8 : ∀ u ∈ e.cells, u.oneCell' = true := by simp [Value.oneCell', Ent.cells]
        go_wp2
        go_quiet (fail)
        obtain ⟨W1, hW1⟩ : ∃ W1 : World, wr.drewN nq = W1 := ⟨_, rfl⟩
        rw [hW1]
        have HW1 := Lib.hid (show Below wr.heap.size wr W1 by rw [← hW1]; exact drewN_below _ _ _)
        clear hW1
        go_wp2
        go_quiet (fail)
        obtain ⟨W, hW⟩ : ∃ W : World, W1.drewN nq = W := ⟨_, rfl⟩
        rw [hW]
        have hBA : Below (w.alloc (eBlk e)).heap.size (w.alloc (eBlk e)) W := (HBA.out.trans (HW1.out.mono HBA.out.size)).trans (by rw [← hW]; exact drewN_below _ _ _)
        clear hW
        have hewW : W.heap[w.heap.size]? = some (eBlk e) := (hBA.block _ (by omega)).trans HE0.out
        obtain ⟨v0, v1, v2, v3, v4⟩ := eBlk_cells hewW
        have HBW := Lib.hid (HB0.out.trans (hBA.mono HB0.out.size))
        have hsW := HBW.out.size
        have hnews := World.news_of_block (cs := #[.int .i64 e.v, .string e.c, .int .i64 e.i, .int .i64 e.s, .bool e.d]) (t := 24) (fr := (0, 0)) (heap_alloc_new W (.cells #[.int .i64 e.v, .string e.c, .int .i64 e.i, .int .i64 e.s, .bool e.d] 24))
        have chk7 : w.heap.size ≤ (W.alloc (.cells #[.int .i64 e.v, .string e.c, .int .i64 e.i, .int .i64 e.s, .bool e.d] 24)).heap.size := by simp; omega
        clear hewW hBA u0 u1 u2 u3 u4
        go_wp2_with (at_builtin; refine wpList_append_lies _ rfl _ _ _ rfl w.heap.size 24 i0 _ 5 48 Try.underlying25 hi0 hz0 hz1 hz2 rfl (by decide) (.slice none 0 0) 0 [] rfl own_none ⟨W.heap.size, 0, none⟩ 1 1 e.cells rfl rfl hnews chk8 (by decide) chk5 (by decide) chk7 (W.heap.size + 1) (by simp) ?_)
        intro g2 cap2 w5 hown5 hgrow5 hat5 hlt5
        have HF : Hid (PutPost w (.slice none 0 0) [] e (.returned (.tuple #[.slice (some ⟨g2, 0, none⟩) (0 + 1) cap2, .bool true])) w5) := Lib.hid (put_fin (k := 0) (n := 0) rfl (Nat.le_refl _) HAh.out HTh.out (HBW.out.trans ⟨hgrow5.os, hgrow5.tape, hgrow5.output, by have := hgrow5.size; simp at this; omega, fun j hj => (hgrow5.block j (by simp; omega) (by simp [Value.ownBlock])).trans (Below.heap_alloc _ _ _ (by omega))⟩) (by simpa [encE_nil] using hown5))
        have hcap2 := own_cap hown5
        clear hown5 hgrow5 hat5 hlt5 hnews
        go_wp2
        first | go_ret2 | skip
        exact HF.out
      · simp only [Value.slice.injEq] at hv1
        obtain ⟨rfl, _, rfl⟩ := hv1
        have hgl : g < w.heap.size := (Array.getElem?_eq_some_iff.1 hv2).1
        have hcs := fun j (hj : j < L.length * 5) => HV.out.cellAt j hj
        have HCS := Lib.hid hcs
        have HBA := Lib.hid hBA0
        clear hcs hBA0 hez hv2
        go_wp2
        go_quiet (fail)
        obtain ⟨W1, hW1⟩ : ∃ W1 : World, wr.drewN nq = W1 := ⟨_, rfl⟩
        rw [hW1]
        have HW1 := Lib.hid (show Below wr.heap.size wr W1 by rw [← hW1]; exact drewN_below _ _ _)
        clear hW1
        go_wp2
        go_quiet (fail)
        obtain ⟨W, hW⟩ : ∃ W : World, W1.drewN nq = W := ⟨_, rfl⟩
        rw [hW]
        have hBA : Below (w.alloc (eBlk e)).heap.size (w.alloc (eBlk e)) W := (HBA.out.trans (HW1.out.mono HBA.out.size)).trans (by rw [← hW]; exact drewN_below _ _ _)
        clear hW
        have hcs := HCS.out
        have hBW : Below w.heap.size w W := HB0.out.trans (hBA.mono HB0.out.size)
        have hsW := hBW.size
        have hgc : ∀ j, j < k * 5 → W.cell? ⟨g, j, none⟩ = (encE L)[j]? := fun j hj => by
          rw [World.cell?_of_block (a := ⟨g, j, none⟩) (hBW.block g hgl)]
          exact hcs j (by rw [HLN.out]; exact hj)
        have HSrc := Lib.hid (part_src hgc HLN.out hk).1
        have HGC := Lib.hid hgc
        have hle : (encE (L.take k)).length = k * 5 := by rw [encE_length, List.length_take, HLN.out, Nat.min_eq_left hk]
        have HLE := Lib.hid hle
        have HBW := Lib.hid hBW
        have hewW : W.heap[w.heap.size]? = some (eBlk e) := (hBA.block _ (by simp)).trans HE0.out
        have HEW := Lib.hid hewW
        have hswl : w.heap.size < W.heap.size := (Array.getElem?_eq_some_iff.1 hewW).1
        have q1 : (k : Int) ≤ (c : Int) := by omega
        have q2 : (0 : Int) ≤ (k : Int) := by omega
        have q3 : k ≤ c := by omega
        have chk1 : 0 + k ≤ maxLen := by unfold maxLen; omega
        have chk2 : (0 + k) * 48 ≤ 140737488355328 := by omega
        clear hgc hle hBW hBA hewW
        go_wp2_with (at_builtin; refine wpList_append_opt rfl _ _ 25 rfl w.heap.size 24 i0 _ 5 48 Try.underlying25 hi0 hz0 hz1 hz2 rfl (by decide) _ 0 [] rfl own_none (some ⟨g, 0, none⟩) k c (encE (L.take k)) rfl (fun h => by cases h) HLE.out HSrc.out encE_mem_one chk1 chk2 hsW ?_)
        intro v1 w4 hown4 hg4
        have hown4 : w4.ownsRow w.heap.size 24 5 v1 k (encE (L.take k)) := by simpa using hown4
        have hb4 : Below W.heap.size W w4 := ⟨hg4.os, hg4.tape, hg4.output, hg4.size, fun j hj => hg4.block j hj (by simp [Value.ownBlock])⟩
        have hs4 := hb4.size
        obtain ⟨u0, u1, u2, u3, u4⟩ := eBlk_cells ((hb4.block _ hswl).trans HEW.out)
        obtain ⟨p1, c1, rfl, _, _, _⟩ := own_rd hown4
        have HB4 := Lib.hid (HBW.out.trans (hb4.mono hsW))
        have HW4 := Lib.hid (fun j (hj : j < k * 5) => (World.cell?_of_block (a := ⟨g, j, none⟩) (hb4.block g (Nat.lt_of_lt_of_le hgl hsW))).trans (HGC.out j hj))
        have hva := hown4.alloc (.cells #[.int .i64 e.v, .string e.c, .int .i64 e.i, .int .i64 e.s, .bool e.d] 24)
        have hnews := World.news_of_block (cs := #[.int .i64 e.v, .string e.c, .int .i64 e.i, .int .i64 e.s, .bool e.d]) (t := 24) (fr := (0, 0)) (heap_alloc_new w4 (.cells #[.int .i64 e.v, .string e.c, .int .i64 e.i, .int .i64 e.s, .bool e.d] 24))
        have hlo : ∀ g', (Value.slice p1 k c1).ownBlock = some g' → w.heap.size ≤ g' := fun g' hg' => (hown4.lt g' hg').1
        have HLO := Lib.hid hlo
        have chk5 : k + 1 ≤ maxLen := by unfold maxLen; omega
        have chk6 : (k + 1) * 48 ≤ 140737488355328 := by omega
        have chk7 : w.heap.size ≤ (w4.alloc (.cells #[.int .i64 e.v, .string e.c, .int .i64 e.i, .int .i64 e.s, .bool e.d] 24)).heap.size := by simp; omega
        have chk8 : ∀ u ∈ e.cells, u.oneCell' = true := by simp [Value.oneCell', Ent.cells]
        clear hown4 hg4 hb4 hlo
        go_wp2_with (at_builtin; refine wpList_append_lies _ rfl _ _ _ rfl w.heap.size 24 i0 _ 5 48 Try.underlying25 hi0 hz0 hz1 hz2 rfl (by decide) (.slice p1 k c1) k _ rfl hva ⟨w4.heap.size, 0, none⟩ 1 1 e.cells rfl rfl hnews chk8 (by decide) chk5 chk6 chk7 (w4.heap.size + 1) (by simp) ?_)
        intro g2 cap2 w5 hown5 hgrow5 hat5 hlt5
        have hb5 : Below w.heap.size w4 w5 := ⟨hgrow5.os, hgrow5.tape, hgrow5.output, by have := hgrow5.size; simp at this; omega, fun j hj => (hgrow5.block j (by simp; omega) (fun e' => by have := HLO.out j e'.symm; omega)).trans (Below.heap_alloc _ _ _ (by omega))⟩
        have HB5 := Lib.hid (HB4.out.trans hb5)
        have hs5 := hb5.size
        have HW5 : Hid (∀ j, j < k * 5 → w5.cell? ⟨g, j, none⟩ = (encE L)[j]?) := Lib.hid (fun j hj => (World.cell?_of_block (a := ⟨g, j, none⟩) (hb5.block g hgl)).trans (HW4.out j hj))
        have HO5 := Lib.hid hown5
        have hle2 : (encE (L.drop k)).length = (k - k) * 5 := by rw [encE_length, List.length_drop, HLN.out]
        have HLE2 := Lib.hid hle2
        have chkA : k + 1 + (k - k) ≤ maxLen := by unfold maxLen; omega
        have chkB : (k + 1 + (k - k)) * 48 ≤ 140737488355328 := by omega
        have chkC : w.heap.size ≤ w5.heap.size := by omega
        have hlo5 : g2 ≥ w.heap.size := (hown5.lt g2 rfl).1
        clear hown5 hgrow5 hat5 hlt5 hva hnews hb5 hle2 u0 u1 u2 u3 u4
        have hcap2 := own_cap HO5.out
        have HF : Hid (PutPost w (.slice (some ⟨g, 0, none⟩) k c) L e (.returned (.tuple #[.slice (some ⟨g2, 0, none⟩) (k + 1) cap2, .bool true])) w5) := Lib.hid (put_fin HLN.out hk HAh.out HTh.out HB5.out (by
          have := HO5.out
          rw [List.drop_eq_nil_of_le (by rw [HLN.out]; exact Nat.le_refl _), Nat.sub_self, encE_nil, List.append_nil]
          exact this))
        by_cases hkc : c = k
        · subst hkc
          go_wp2
          first | go_ret2 | skip
          exact HF.out
        · have hkc2 : ¬ (c ≤ k) := by omega
          go_wp2
          first | go_ret2 | skip
          exact HF.out
end Go.Proofs.Ytahdaccmokjgpaa

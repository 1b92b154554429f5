/-
  WALKS: the order of hits, by the program and by the document.
-/
import Derived.Test.YtmfanldekjkbiaaDoorHeapP
import Derived.Sort.Grow
import Derived.StillTailTactics
import Derived.Deep.QuietTactic
import Derived.BigQuiet
import Derived.Lib.Strings
import Derived.Lib.Slices
import Derived.Lib.Small
import Derived.Lib.Walk
import Derived.Laws.Cover1
namespace Go.Proofs.YtmfanldekjkbiaaDoor
open Go.RowKit Go.Sort
set_option linter.unusedVariables false

theorem CmpInt_calls (x y : Int) (w : World) : Calls Tryd.prog 41 #[.int .i64 x, .int .i64 y] w fun e w' => e = .returned (.int .i64 (cmpI x y)) ∧ w' = w := by
  go_enter Tryd.func41, Tryd.ntmps41
  go_wp2
  all_goals (go_ret; refine ⟨?_, rfl⟩; unfold cmpI; (repeat' split) <;> first | rfl | (exfalso; omega))

theorem CmpStr_calls (x y : ByteArray) (w : World) : Calls Tryd.prog 59 #[.string x, .string y] w fun e w' => e = .returned (.int .i64 (cmpS x y)) ∧ w' = w := by
  have hg := sless_gtr x y
  have hs : sless x y = Op.bytesLess x.toList y.toList := rfl
  unfold cmpS
  obtain ⟨b1, h1⟩ : ∃ b, Op.bytesLess x.toList y.toList = b := ⟨_, rfl⟩
  obtain ⟨b2, h2⟩ : ∃ b, (x.toList == y.toList) = b := ⟨_, rfl⟩
  rw [h1, h2] at hg
  rw [h1] at hs
  obtain ⟨r, hr⟩ : ∃ r : Int, (if sless x y = true then -1 else if sless y x = true then 1 else 0) = r := ⟨_, rfl⟩
  rw [hr]
  rw [← hg, hs] at hr
  clear hg hs
  go_enter Tryd.func59, Tryd.ntmps59
  cases b1
  · cases b2
    · go_wp2
      go_ret
      exact ⟨by rw [← hr]; rfl, rfl⟩
    · go_wp2
      go_ret
      exact ⟨by rw [← hr]; rfl, rfl⟩
  · go_wp2
    go_ret
    exact ⟨by rw [← hr]; rfl, rfl⟩

/-- The first that is not 0. -/
def orL : List Int → Int
  | [] => 0
  | x :: l => if x ≠ 0 then x else orL l

theorem orL_first : ∀ (l : List Int) (k : Nat) (x : Int), (∀ (j : Nat) (y : Int), j < k → l[j]? = some y → y = 0) → l[k]? = some x → x ≠ 0 → orL l = x
  | [], _, _, _, h, _ => by simp at h
  | y :: l, 0, x, _, h, hx => by simp at h; subst h; simp [orL, hx]
  | y :: l, k + 1, x, h0, h, hx => by
    have hy := h0 0 y (by omega) rfl
    rw [orL, if_neg (by simp [hy])]
    exact orL_first l k x (fun j z hj hz => h0 (j + 1) z (by omega) (by simpa using hz)) (by simpa using h) hx

theorem orL_none : ∀ (l : List Int), (∀ (j : Nat) (y : Int), l[j]? = some y → y = 0) → orL l = 0
  | [], _ => rfl
  | y :: l, h => by
    rw [orL, if_neg (by simp [h 0 y rfl])]
    exact orL_none l (fun j z hz => h (j + 1) z (by simpa using hz))

theorem Or_calls (l : List Int) (g : Nat) (cap : Nat) (hl : l.length ≤ 1000) (w : World) (hc : ∀ (j : Nat) (x : Int), l[j]? = some x → w.cell? ⟨g, j, none⟩ = some (.int .i64 x)) :
    Calls Tryd.prog 58 #[.slice (some ⟨g, 0, none⟩) l.length cap] w fun e w' => e = .returned (.int .i64 (orL l)) ∧ w' = w := by
  have h1 := orL_first l
  have h2 := orL_none l
  obtain ⟨r, hr⟩ : ∃ r, orL l = r := ⟨_, rfl⟩
  rw [hr] at h1 h2 ⊢
  have H1 := Lib.hid h1
  have H2 := Lib.hid h2
  obtain ⟨n, hn⟩ : ∃ n, l.length = n := ⟨_, rfl⟩
  have HC := Lib.hid hc
  have HN := Lib.hid hn
  rw [hn] at hl ⊢
  clear h1 h2 hr hc hn
  go_enter Tryd.func58, Tryd.ntmps58
  go_wp2
  go_loop [8] (fun i => ∃ k : Nat, k ≤ n ∧ i = .int .i64 k ∧ Hid (∀ (j : Nat) (y : Int), j < k → l[j]? = some y → y = 0)) (fun i => n - (intOf i).toNat)
  case atStart => exact ⟨0, Nat.zero_le _, rfl, Lib.hid (fun j y hj => by omega)⟩
  case round =>
    obtain ⟨k, hk, rfl, HZ⟩ := hrel
    by_cases hlt : k < n
    · obtain ⟨x, hx⟩ : ∃ x, l[k]? = some x := ⟨_, List.getElem?_eq_getElem (by rw [HN.out]; exact hlt)⟩
      have c0 := HC.out k x hx
      by_cases hx0 : x = 0
      · subst hx0
        have HZ2 : Hid (∀ (j : Nat) (y : Int), j < k + 1 → l[j]? = some y → y = 0) := Lib.hid (fun j y hj hy => by
          rcases Nat.lt_or_ge j k with h | h
          · exact HZ.out j y h hy
          · obtain rfl : j = k := by omega
            rw [hx] at hy; cases hy; rfl)
        clear hx
        go_wp2
        go_round
        case rel => exact ⟨k + 1, by omega, by go_num, HZ2⟩
        case measure => simp [intOf]; omega
      · have hne : (x != 0) = true := by rw [bne_iff_ne]; exact hx0
        have hrx := H1.out k x HZ.out hx hx0
        clear hx
        go_wp2
        go_ret
        exact ⟨by first | rfl | rw [hrx], rfl⟩
    · obtain rfl : k = n := by omega
      have hr0 := H2.out (fun j y hy => HZ.out j y (by have := (List.getElem?_eq_some_iff.1 hy).1; rw [HN.out] at this; exact this) hy)
      go_wp2
      go_ret
      exact ⟨by first | rfl | rw [hr0], rfl⟩

theorem orL_ord (a b : Hv) : orL [cmpI a.d b.d, cmpI a.i b.i, cmpS a.c b.c] = ordH a b := by
  unfold ordH
  simp only [orL]
  split
  · rfl
  · split
    · rfl
    · split <;> simp_all

/-- Draws, and new blocks behind the old ones: all that has turned. -/
def Gr (w w' : World) : Prop := ∃ q os, w' = grow (w.drewN q) os

theorem Gr.refl (w : World) : Gr w w := ⟨0, #[], by simp [grow, World.drewN]⟩

theorem Gr.alloc {w w' : World} (h : Gr w w') (o : Obj) : Gr w (w'.alloc o) := by
  obtain ⟨q, os, rfl⟩ := h
  exact ⟨q, os ++ #[o], by rw [alloc_eq_grow, grow_grow]⟩

theorem Gr.drew {w w' : World} (h : Gr w w') : Gr w w'.drew := by
  obtain ⟨q, os, rfl⟩ := h
  exact ⟨q + 1, os, rfl⟩

theorem Gr.trans {a b c : World} (h : Gr a b) (k : Gr b c) : Gr a c := by
  obtain ⟨q, os, rfl⟩ := h
  obtain ⟨q', os', rfl⟩ := k
  refine ⟨q + q', os ++ os', ?_⟩
  rw [← grow_grow, ← World.drewN_drewN]
  rfl

theorem Gr.below {w w' : World} (h : Gr w w') : Below w.heap.size w w' := by
  obtain ⟨q, os, rfl⟩ := h
  refine ⟨rfl, rfl, rfl, ?_, fun k hk => ?_⟩
  · show w.heap.size ≤ (w.heap ++ os).size
    simp
  · show (w.heap ++ os)[k]? = _
    rw [Array.getElem?_append_left hk]

/-- Two boxed parameters. -/
theorem box2 (w : World) (a b : Array Value) (t1 t2 : TypeId) : ∃ W, (w.alloc (Obj.cells a t1)).alloc (Obj.cells b t2) = W ∧ Below w.heap.size w W ∧ (∀ k, W.cell? ⟨w.heap.size, k, none⟩ = a[k]?) ∧ (∀ k, W.cell? ⟨w.heap.size + 1, k, none⟩ = b[k]?) := by
  have e : ((w.alloc (Obj.cells a t1)).alloc (Obj.cells b t2)).heap = (w.heap.push (Obj.cells a t1)).push (Obj.cells b t2) := rfl
  refine ⟨_, rfl, ((Below.refl _ w).alloc (Nat.le_refl _) _).alloc (by simp) _, fun k => ?_, fun k => ?_⟩
  · unfold World.cell?
    simp only [e]
    rw [Array.getElem?_push_lt (by simp)]
    simp
  · unfold World.cell?
    simp only [e]
    rw [show w.heap.size + 1 = (w.heap.push (Obj.cells a t1)).size by simp, Array.getElem?_push_size]
    simp

theorem alloc2_fst (w : World) (a b : Array Value) (t1 t2 : TypeId) (k : Nat) : ((w.alloc (Obj.cells a t1)).alloc (Obj.cells b t2)).cell? ⟨w.heap.size, k, none⟩ = a[k]? := by
  obtain ⟨W, rfl, _, h, _⟩ := box2 w a b t1 t2
  exact h k

theorem alloc2_snd (w : World) (a b : Array Value) (t1 t2 : TypeId) (k : Nat) : ((w.alloc (Obj.cells a t1)).alloc (Obj.cells b t2)).cell? ⟨w.heap.size + 1, k, none⟩ = b[k]? := by
  obtain ⟨W, rfl, _, _, h⟩ := box2 w a b t1 t2
  exact h k

set_option maxRecDepth 100000 in
set_option maxHeartbeats 1000000 in
theorem order_calls (a b : Hv) (w : World) : Calls Tryd.prog 48 #[a.val, b.val] w fun e w' => e = .returned (.int .i64 (ordH a b)) ∧ Gr w w' := by
  have hor := orL_ord a b
  obtain ⟨d, i, c⟩ := a
  obtain ⟨d', i', c'⟩ := b
  simp only [Hv.val] at hor ⊢
  go_enter Tryd.func48, Tryd.ntmps48
  go_wp2
  obtain ⟨W, hW, hbl, hx, hy⟩ := box2 w #[.int .i64 d, .int .i64 i, .string c] #[.int .i64 d', .int .i64 i', .string c'] 36 36
  have x0 : W.drew.cell? ⟨w.heap.size, 0, none⟩ = some (.int .i64 d) := hx 0
  have x1 : W.drew.cell? ⟨w.heap.size, 1, none⟩ = some (.int .i64 i) := hx 1
  have x2 : W.drew.cell? ⟨w.heap.size, 2, none⟩ = some (.string c) := hx 2
  have y0 : W.drew.cell? ⟨w.heap.size + 1, 0, none⟩ = some (.int .i64 d') := hy 0
  have y1 : W.drew.cell? ⟨w.heap.size + 1, 1, none⟩ = some (.int .i64 i') := hy 1
  have y2 : W.drew.cell? ⟨w.heap.size + 1, 2, none⟩ = some (.string c') := hy 2
  have hbd : Gr w W.drew := by rw [← hW]; exact (((Gr.refl w).alloc _).alloc _).drew
  rw [hW]
  refine wp_region_still_tail 15 (by kernel_rfl) (by kernel_rfl) ?_
  simp only [List.take_succ_cons, List.take_zero, List.drop_succ_cons, List.drop_zero]
  change wpStill _ _ W.drew (fun a' => wpList _ _ _ _ a' W.drew) _ _
  generalize W.drew = W2 at x0 x1 x2 y0 y1 y2 hbd ⊢
  clear hW hbl hx hy W
  still_step
  still_step
  still_step
  still_step
  still_call (CmpInt_calls _ _ _)
  still_step
  still_step
  still_step
  still_step
  still_call (CmpInt_calls _ _ _)
  still_step
  still_step
  still_step
  still_step
  still_call (CmpStr_calls _ _ _)
  refine wpStill_nil ?_
  go_wp2_with fail
  refine (Or_calls [cmpI d d', cmpI i i', cmpS c c'] _ _ (by simp) _ ?_).mono ?_
  · intro j x hx
    match j, hx with
    | 0, h => simp at h; subst h; go_simp
    | 1, h => simp at h; subst h; go_simp
    | 2, h => simp at h; subst h; go_simp
  · rintro e w' ⟨rfl, rfl⟩
    go_wp2
    go_ret
    exact ⟨by rw [← hor]; rfl, hbd.alloc _⟩

/-- The closure of a pile. -/
theorem less_calls (a b : Hv) (w : World) : Calls Tryd.prog 55 #[a.val, b.val] w fun e w' => e = .returned (.bool (decide (hless b a))) ∧ Gr w w' := by
  have hp : decide (hless b a) = decide (0 < ordH a b) := by rw [decide_eq_decide]; exact ordH_pos.symm
  have C := fun W => order_calls a b W
  rw [hp]
  generalize ordH a b = r at C ⊢
  obtain ⟨d, i, c⟩ := a
  obtain ⟨d', i', c'⟩ := b
  simp only [Hv.val] at C ⊢
  have HC := Lib.hid C
  have hbd : Gr w ((w.alloc (.cells #[.int .i64 d, .int .i64 i, .string c] 36)).alloc (.cells #[.int .i64 d', .int .i64 i', .string c'] 36)) := ((Gr.refl w).alloc _).alloc _
  have HG := Lib.hid hbd
  clear C hbd hp
  go_enter Tryd.func55, Tryd.ntmps55
  go_wp2_with fail
  refine (HC.out _).mono ?_
  rintro e w' ⟨rfl, hg⟩
  go_wp2
  go_ret
  exact ⟨rfl, HG.out.trans hg⟩

end Go.Proofs.YtmfanldekjkbiaaDoor

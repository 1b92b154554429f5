/-
  WALKS: the order of entries, by the program and by the document.
-/
import Derived.Test.YtahdaccmokjgpaaEnt
import Derived.StillTailTactics
import Derived.Deep.QuietTactic
import Derived.BigQuiet
import Derived.Lib.Strings
import Derived.Lib.Slices
import Derived.Lib.Small
import Derived.Lib.Walk
import Derived.Laws.Cover1
namespace Go.Proofs.Ytahdaccmokjgpaa
open Go.RowKit
set_option linter.unusedVariables false

theorem CmpInt_calls (x y : Int) (w : World) : Calls Try.prog 35 #[.int .i64 x, .int .i64 y] w fun e w' => e = .returned (.int .i64 (cmpI x y)) ∧ w' = w := by
  go_enter Try.func35, Try.ntmps35
  go_wp2
  all_goals (go_ret; refine ⟨?_, rfl⟩; unfold cmpI; (repeat' split) <;> first | rfl | (exfalso; omega))

theorem CmpStr_calls (x y : ByteArray) (w : World) : Calls Try.prog 36 #[.string x, .string y] w fun e w' => e = .returned (.int .i64 (cmpS x y)) ∧ w' = w := by
  have hg := sless_gtr x y
  have hs : sless x y = Op.bytesLess x.toList y.toList := rfl
  unfold cmpS
  obtain ⟨b1, h1⟩ : ∃ b, Op.bytesLess x.toList y.toList = b := ⟨_, rfl⟩
  obtain ⟨b2, h2⟩ : ∃ b, (x.toList == y.toList) = b := ⟨_, rfl⟩
  rw [h1, h2] at hg
  rw [h1] at hs
  obtain ⟨r, hr⟩ : ∃ r : Int, (if sless x y = true then -1 else if sless y x = true then 1 else 0) = r := ⟨_, rfl⟩
  rw [hr]
  rw [← hg, hs] at hr
  clear hg hs
  go_enter Try.func36, Try.ntmps36
  cases b1
  · cases b2
    · go_wp2
      go_ret
      exact ⟨by rw [← hr]; rfl, rfl⟩
    · go_wp2
      go_ret
      exact ⟨by rw [← hr]; rfl, rfl⟩
  · go_wp2
    go_ret
    exact ⟨by rw [← hr]; rfl, rfl⟩

/-- The first that is not 0. -/
def orL : List Int → Int
  | [] => 0
  | x :: l => if x ≠ 0 then x else orL l
theorem orL_first : ∀ (l : List Int) (k : Nat) (x : Int), (∀ (j : Nat) (y : Int), j < k → l[j]? = some y → y = 0) → l[k]? = some x → x ≠ 0 → orL l = x
  | [], _, _, _, h, _ => by simp at h
  | y :: l, 0, x, _, h, hx => by simp at h; subst h; simp [orL, hx]
  | y :: l, k + 1, x, h0, h, hx => by
    have hy := h0 0 y (by omega) rfl
    rw [orL, if_neg (by simp [hy])]
    exact orL_first l k x (fun j z hj hz => h0 (j + 1) z (by omega) (by simpa using hz)) (by simpa using h) hx
theorem orL_none : ∀ (l : List Int), (∀ (j : Nat) (y : Int), l[j]? = some y → y = 0) → orL l = 0
  | [], _ => rfl
  | y :: l, h => by
    rw [orL, if_neg (by simp [h 0 y rfl])]
    exact orL_none l (fun j z hz => h (j + 1) z (by simpa using hz))

theorem Or_calls (l : List Int) (g : Nat) (cap : Nat) (hl : l.length ≤ 1000) (w : World) (hc : ∀ (j : Nat) (x : Int), l[j]? = some x → w.cell? ⟨g, j, none⟩ = some (.int .i64 x)) :
    Calls Try.prog 34 #[.slice (some ⟨g, 0, none⟩) l.length cap] w fun e w' => e = .returned (.int .i64 (orL l)) ∧ w' = w := by
  have h1 := orL_first l
  have h2 := orL_none l
  obtain ⟨r, hr⟩ : ∃ r, orL l = r := ⟨_, rfl⟩
  rw [hr] at h1 h2 ⊢
  have H1 := Lib.hid h1
  have H2 := Lib.hid h2
  obtain ⟨n, hn⟩ : ∃ n, l.length = n := ⟨_, rfl⟩
  have HC := Lib.hid hc
  have HN := Lib.hid hn
  rw [hn] at hl ⊢
  clear h1 h2 hr hc hn
  go_enter Try.func34, Try.ntmps34
  go_wp2
  go_loop [8] (fun i => ∃ k : Nat, k ≤ n ∧ i = .int .i64 k ∧ Hid (∀ (j : Nat) (y : Int), j < k → l[j]? = some y → y = 0)) (fun i => n - (intOf i).toNat)
  case atStart => exact ⟨0, Nat.zero_le _, rfl, Lib.hid (fun j y hj => by omega)⟩
  case round =>
    obtain ⟨k, hk, rfl, HZ⟩ := hrel
    by_cases hlt : k < n
    · obtain ⟨x, hx⟩ : ∃ x, l[k]? = some x := ⟨_, List.getElem?_eq_getElem (by rw [HN.out]; exact hlt)⟩
      have c0 := HC.out k x hx
      by_cases hx0 : x = 0
      · subst hx0
        have HZ2 : Hid (∀ (j : Nat) (y : Int), j < k + 1 → l[j]? = some y → y = 0) := Lib.hid (fun j y hj hy => by
          rcases Nat.lt_or_ge j k with h | h
          · exact HZ.out j y h hy
          · obtain rfl : j = k := by omega
            rw [hx] at hy; cases hy; rfl)
        clear hx
        go_wp2
        go_round
        case rel => exact ⟨k + 1, by omega, by go_num, HZ2⟩
        case measure => simp [intOf]; omega
      · have hne : (x != 0) = true := by rw [bne_iff_ne]; exact hx0
        have hrx := H1.out k x HZ.out hx hx0
        clear hx
        go_wp2
        go_ret
        exact ⟨by first | rfl | rw [hrx], rfl⟩
    · obtain rfl : k = n := by omega
      have hr0 := H2.out (fun j y hy => HZ.out j y (by have := (List.getElem?_eq_some_iff.1 hy).1; rw [HN.out] at this; exact this) hy)
      go_wp2
      go_ret
      exact ⟨by first | rfl | rw [hr0], rfl⟩
theorem orL_cmp (a b : Ent) : orL [cmpI a.v b.v, cmpS a.c b.c, cmpI a.i b.i] = cmpE a b := by
  unfold cmpE
  simp only [orL]
  split
  · rfl
  · split
    · rfl
    · split <;> simp_all

/-- Two boxed parameters. -/
theorem box2 (w : World) (a b : Array Value) (t1 t2 : TypeId) : ∃ W, (w.alloc (Obj.cells a t1)).alloc (Obj.cells b t2) = W ∧ Below w.heap.size w W ∧ (∀ k, W.cell? ⟨w.heap.size, k, none⟩ = a[k]?) ∧ (∀ k, W.cell? ⟨w.heap.size + 1, k, none⟩ = b[k]?) := by
  have e : ((w.alloc (Obj.cells a t1)).alloc (Obj.cells b t2)).heap = (w.heap.push (Obj.cells a t1)).push (Obj.cells b t2) := rfl
  refine ⟨_, rfl, ((Below.refl _ w).alloc (Nat.le_refl _) _).alloc (by simp) _, fun k => ?_, fun k => ?_⟩
  · unfold World.cell?
    simp only [e]
    rw [Array.getElem?_push_lt (by simp)]
    simp
  · unfold World.cell?
    simp only [e]
    rw [show w.heap.size + 1 = (w.heap.push (Obj.cells a t1)).size by simp, Array.getElem?_push_size]
    simp

theorem alloc2_fst (w : World) (a b : Array Value) (t1 t2 : TypeId) (k : Nat) : ((w.alloc (Obj.cells a t1)).alloc (Obj.cells b t2)).cell? ⟨w.heap.size, k, none⟩ = a[k]? := by
  obtain ⟨W, rfl, _, h, _⟩ := box2 w a b t1 t2
  exact h k
theorem alloc2_snd (w : World) (a b : Array Value) (t1 t2 : TypeId) (k : Nat) : ((w.alloc (Obj.cells a t1)).alloc (Obj.cells b t2)).cell? ⟨w.heap.size + 1, k, none⟩ = b[k]? := by
  obtain ⟨W, rfl, _, _, h⟩ := box2 w a b t1 t2
  exact h k

set_option maxRecDepth 100000 in
set_option maxHeartbeats 1000000 in
theorem Compare_calls (a b : Ent) (w : World) : Calls Try.prog 10 #[a.val, b.val] w fun e w' => e = .returned (.int .i64 (cmpE a b)) ∧ Below w.heap.size w w' := by
  have hor := orL_cmp a b
  obtain ⟨v, c, i, s, d⟩ := a
  obtain ⟨v', c', i', s', d'⟩ := b
  simp only [Ent.val] at hor ⊢
  go_enter Try.func10, Try.ntmps10
  go_wp2
  obtain ⟨W, hW, hbl, hx, hy⟩ := box2 w #[.int .i64 v, .string c, .int .i64 i, .int .i64 s, .bool d] #[.int .i64 v', .string c', .int .i64 i', .int .i64 s', .bool d'] 24 24
  have x0 : W.drew.cell? ⟨w.heap.size, 0, none⟩ = some (.int .i64 v) := hx 0
  have x1 : W.drew.cell? ⟨w.heap.size, 1, none⟩ = some (.string c) := hx 1
  have x2 : W.drew.cell? ⟨w.heap.size, 2, none⟩ = some (.int .i64 i) := hx 2
  have y0 : W.drew.cell? ⟨w.heap.size + 1, 0, none⟩ = some (.int .i64 v') := hy 0
  have y1 : W.drew.cell? ⟨w.heap.size + 1, 1, none⟩ = some (.string c') := hy 1
  have y2 : W.drew.cell? ⟨w.heap.size + 1, 2, none⟩ = some (.int .i64 i') := hy 2
  have hbd : Below w.heap.size w W.drew := hbl.drew
  rw [hW]
  refine wp_region_still_tail 15 (by kernel_rfl) (by kernel_rfl) ?_
  simp only [List.take_succ_cons, List.take_zero, List.drop_succ_cons, List.drop_zero]
  change wpStill _ _ W.drew (fun a' => wpList _ _ _ _ a' W.drew) _ _
  generalize W.drew = W2 at x0 x1 x2 y0 y1 y2 hbd ⊢
  clear hW hbl hx hy W
  still_step
  still_step
  still_step
  still_step
  still_call (CmpInt_calls _ _ _)
  still_step
  still_step
  still_step
  still_step
  still_call (CmpStr_calls _ _ _)
  still_step
  still_step
  still_step
  still_step
  still_call (CmpInt_calls _ _ _)
  refine wpStill_nil ?_
  go_wp2_with fail
  refine (Or_calls [cmpI v v', cmpS c c', cmpI i i'] _ _ (by simp) _ ?_).mono ?_
  · intro j x hx
    match j, hx with
    | 0, h => simp at h; subst h; go_simp
    | 1, h => simp at h; subst h; go_simp
    | 2, h => simp at h; subst h; go_simp
  · rintro e w' ⟨rfl, rfl⟩
    go_wp2
    go_ret
    exact ⟨rfl, hbd.alloc hbd.size _⟩

set_option maxRecDepth 100000 in
set_option maxHeartbeats 1000000 in
theorem RefCompare_calls (a b : Ent) (w : World) : Calls Try.prog 11 #[a.val, b.val] w fun e w' => e = .returned (.int .i64 (cmpE a b)) ∧ Below w.heap.size w w' := by
  have hcmp : cmpE a b = if a.v < b.v then -1 else if b.v < a.v then 1 else if sless a.c b.c then -1 else if sless b.c a.c then 1 else if a.i < b.i then -1 else if b.i < a.i then 1 else 0 := by
    unfold cmpE cmpI cmpS
    repeat' split
    all_goals first | rfl | omega | simp_all
  obtain ⟨r, hr⟩ : ∃ r, cmpE a b = r := ⟨_, rfl⟩
  rw [hr] at hcmp ⊢
  clear hr
  obtain ⟨v, c, i, s, d⟩ := a
  obtain ⟨v', c', i', s', d'⟩ := b
  simp only [Ent.val] at hcmp ⊢
  have hg := sless_gtr c c'
  have hs : sless c c' = Op.bytesLess c.toList c'.toList := rfl
  obtain ⟨b1, h1⟩ : ∃ b, Op.bytesLess c.toList c'.toList = b := ⟨_, rfl⟩
  obtain ⟨b2, h2⟩ : ∃ b, (c.toList == c'.toList) = b := ⟨_, rfl⟩
  rw [h1, h2] at hg
  rw [h1] at hs
  rw [← hg, hs] at hcmp
  clear hg hs
  go_enter Try.func11, Try.ntmps11
  cases b1
  · cases b2
    · go_wp2
      all_goals (go_ret; refine ⟨?_, ((Below.refl _ w).alloc (Nat.le_refl _) _).alloc (by simp) _⟩; subst hcmp; simp <;> (repeat' split) <;> first | rfl | (exfalso; omega) | simp_all)
    · go_wp2
      all_goals (go_ret; refine ⟨?_, ((Below.refl _ w).alloc (Nat.le_refl _) _).alloc (by simp) _⟩; subst hcmp; simp <;> (repeat' split) <;> first | rfl | (exfalso; omega) | simp_all)
  · go_wp2
    all_goals (go_ret; refine ⟨?_, ((Below.refl _ w).alloc (Nat.le_refl _) _).alloc (by simp) _⟩; subst hcmp; simp <;> (repeat' split) <;> first | rfl | (exfalso; omega) | simp_all)
end Go.Proofs.Ytahdaccmokjgpaa

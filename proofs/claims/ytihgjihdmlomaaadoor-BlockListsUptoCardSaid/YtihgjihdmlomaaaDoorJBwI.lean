/-
  WALK: what the program and the document answer of one file, in one word.
-/
import Derived.Test.YtihgjihdmlomaaaDoorJBwE
import Derived.Test.YtihgjihdmlomaaaDoorJBwH
namespace Go.Proofs.YtihgjihdmlomaaaDoor
open Go.RowKit ArgK
set_option linter.unusedVariables false

theorem part_ex {h : Hd} {l : List Ent} (hgo : goesR h l = 0) (en : Ent) : ∃ s, Parted (behindI en (linesB h l)) (linesB h l).length s :=
  parted_of _ (behind_mono (goesR_sorted hgo) (goesR_good hgo).2.2 en)

/-- What From answers, and how many blocks have been read then. -/
def fromA (en : Ent) (most : Int) (gs : List (List Ent)) (s r0 : Nat) : List Ent × Nat := if most < 1 then ([], r0) else fromG en most.toNat (gs.drop (s - 1)) [] r0
def findA (value : Int) (gs : List (List Ent)) (s r0 : Nat) : List Ent × Nat := findG value (gs.drop (s - 1)) [] r0

/-- What a call leaves as it was: all but two blocks. -/
structure Fr2 (f1 f2 : Nat) (w w' : World) : Prop where
  os : w'.os = w.os
  tape : w'.tape = w.tape
  output : w'.output = w.output
  size : w.heap.size ≤ w'.heap.size
  block : ∀ k, k < w.heap.size → k ≠ f1 → k ≠ f2 → w'.heap[k]? = w.heap[k]?
theorem Fr2.refl (f1 f2 : Nat) (w : World) : Fr2 f1 f2 w w := ⟨rfl, rfl, rfl, Nat.le_refl _, fun _ _ _ _ => rfl⟩
theorem Fr2.trans {f1 f2 : Nat} {a b c : World} (h : Fr2 f1 f2 a b) (k : Fr2 f1 f2 b c) : Fr2 f1 f2 a c :=
  ⟨k.os.trans h.os, k.tape.trans h.tape, k.output.trans h.output, Nat.le_trans h.size k.size, fun j hj h1 h2 => (k.block j (Nat.lt_of_lt_of_le hj h.size) h1 h2).trans (h.block j hj h1 h2)⟩
theorem Fr2.of1 {f1 f2 : Nat} {a b : World} (h : a.grownBy b (some f1)) : Fr2 f1 f2 a b := ⟨h.os, h.tape, h.output, h.size, fun k hk h1 _ => h.block k hk (fun e => h1 (Option.some.inj e))⟩
theorem Fr2.of2 {f1 f2 : Nat} {a b : World} (h : a.grownBy b (some f2)) : Fr2 f1 f2 a b := ⟨h.os, h.tape, h.output, h.size, fun k hk _ h2 => h.block k hk (fun e => h2 (Option.some.inj e))⟩
theorem Fr2.ofB {f1 f2 : Nat} {a b : World} (h : Below a.heap.size a b) : Fr2 f1 f2 a b := ⟨h.os, h.tape, h.output, h.size, fun k hk _ _ => h.block k hk⟩
theorem Fr2.below {f1 f2 : Nat} {W a b : World} (hB : Below W.heap.size W a) (h : Fr2 f1 f2 a b) (h1 : W.heap.size ≤ f1) (h2 : W.heap.size ≤ f2) : Below W.heap.size W b :=
  hB.trans ⟨h.os, h.tape, h.output, h.size, fun k hk => h.block k (Nat.lt_of_lt_of_le hk hB.size) (by omega) (by omega)⟩

/-- The program's file and the document's, side by side. -/
structure Both (W : World) (b1 f1 b2 f2 : Nat) (h : Hd) (l : List Ent) (r : Nat) : Prop where
  f : FileAt W b1 f1 h l (r : Nat)
  d : RFileAt W b2 f2 h l (r : Nat)

theorem keep_own {W W' : World} {g : Nat} {A : Array Value} {T : TypeId} {fr : Nat × Nat} (hg : W.heap[g]? = some (.cells A T fr)) (hk : ∀ k, k < W.heap.size → k ≠ g → W'.heap[k]? = W.heap[k]?) {base : Nat} {e : TypeId} {size : Nat} {v : Value} {n : Nat} {xs : List Value} (ho : W.ownsRow base e size v n xs) (hne : e ≠ T) : W'.ownsRow base e size v n xs := by
  have hb := own_type_ne ho hg hne
  refine ⟨ho.1, ?_⟩
  rcases ho.2 with hn | ⟨q, cap, cur, rfl, hbq, hh, rest⟩
  · exact .inl hn
  · exact .inr ⟨q, cap, cur, rfl, hbq, (hk q (Array.getElem?_eq_some_iff.1 hh).1 (fun e => hb (by rw [← e]; rfl))).trans hh, rest⟩
theorem keep_d {W W' : World} {b1 f1 b2 f2 : Nat} {h h' : Hd} {l l' : List Ent} {r r' : Int} (hF : FileAt W b1 f1 h l r) (hD : RFileAt W b2 f2 h' l' r') (hg : W.grownBy W' (some f1)) : RFileAt W' b2 f2 h' l' r' := by
  obtain ⟨lp, lc, q, c, h1, _, _, _⟩ := hF
  obtain ⟨lp', lc', q', c', k1, k2, k3, k4⟩ := hD
  have hk : ∀ k, k < W.heap.size → k ≠ f1 → W'.heap[k]? = W.heap[k]? := fun k hk hne => hg.block k hk (fun e => hne (Option.some.inj e))
  have hne : f2 ≠ f1 := by
    rintro rfl
    rw [h1] at k1
    have := Option.some.inj k1
    injection this with _ h2
    exact absurd h2 (by decide)
  exact ⟨lp', lc', q', c', (hk f2 (Array.getElem?_eq_some_iff.1 k1).1 hne).trans k1, keep_own h1 hk k2 (by decide), keep_own h1 hk k3 (by decide), k4⟩
theorem keep_f {W W' : World} {b1 f1 b2 f2 : Nat} {h h' : Hd} {l l' : List Ent} {r r' : Int} (hF : FileAt W b1 f1 h l r) (hD : RFileAt W b2 f2 h' l' r') (hg : W.grownBy W' (some f2)) : FileAt W' b1 f1 h l r := by
  obtain ⟨lp, lc, q, c, h1, h2, h3, h4⟩ := hF
  obtain ⟨lp', lc', q', c', k1, _, _, _⟩ := hD
  have hk : ∀ k, k < W.heap.size → k ≠ f2 → W'.heap[k]? = W.heap[k]? := fun k hk hne => hg.block k hk (fun e => hne (Option.some.inj e))
  have hne : f1 ≠ f2 := by
    rintro rfl
    rw [h1] at k1
    have := Option.some.inj k1
    injection this with _ h2
    exact absurd h2 (by decide)
  exact ⟨lp, lc, q, c, (hk f1 (Array.getElem?_eq_some_iff.1 h1).1 hne).trans h1, keep_own k1 hk h2 (by decide), keep_own k1 hk h3 (by decide), h4⟩
theorem Both.below {W W' : World} {b1 f1 b2 f2 : Nat} {h : Hd} {l : List Ent} {r : Nat} (hB : Both W b1 f1 b2 f2 h l r) (hb : Below W.heap.size W W') : Both W' b1 f1 b2 f2 h l r := ⟨hB.f.below hb, hB.d.below hb⟩

theorem fromA_len {h : Hd} {l : List Ent} (hgo : goesR h l = 0) (en : Ent) (most : Int) {s : Nat} (hp : Parted (behindI en (linesB h l)) (linesB h l).length s) (r0 : Nat) : (fromA en most (groups l) s r0).1.length ≤ l.length ∧ r0 ≤ (fromA en most (groups l) s r0).2 ∧ (fromA en most (groups l) s r0).2 ≤ r0 + 131072 := by
  obtain ⟨hh, hl, hgd⟩ := goesR_good hgo
  have hfew := linesB_few h hgd hl
  rw [linesB_length] at hfew
  unfold fromA
  split
  · exact ⟨Nat.zero_le _, Nat.le_refl _, Nat.le_add_right _ _⟩
  · have h1 := fromG_le en most.toNat ((groups l).drop (s - 1)) [] r0
    rw [List.length_drop] at h1
    refine ⟨?_, h1.1, by omega⟩
    rw [fromG_fold]
    have h2 := foldF_len en most.toNat ((groups l).drop (s - 1)).flatten []
    have h3 := congrArg List.length (drop_flat l (s - 1))
    rw [List.length_append] at h3
    simp only [List.length_nil] at h2
    omega
theorem findA_len {h : Hd} {l : List Ent} (hgo : goesR h l = 0) (value : Int) (s r0 : Nat) : (findA value (groups l) s r0).1.length ≤ l.length ∧ r0 ≤ (findA value (groups l) s r0).2 ∧ (findA value (groups l) s r0).2 ≤ r0 + 131072 := by
  obtain ⟨hh, hl, hgd⟩ := goesR_good hgo
  have hfew := linesB_few h hgd hl
  rw [linesB_length] at hfew
  have hs := goesR_sorted hgo
  rw [← groups_flat l] at hs
  have h5 := (sorted_flat hs).2
  have h1 := findG_le value ((groups l).drop (s - 1)) [] r0
  rw [List.length_drop] at h1
  refine ⟨?_, h1.1, by unfold findA; omega⟩
  unfold findA
  rw [findG_filter value _ [] r0 (h5.sublist (List.drop_sublist _ _))]
  have h2 := List.length_filter_le (fun x : Ent => decide (x.v = value)) ((groups l).drop (s - 1)).flatten
  have h3 := congrArg List.length (drop_flat l (s - 1))
  rw [List.length_append] at h3
  simp only [List.nil_append]
  omega

theorem PFind_calls (base fb : Nat) (h : Hd) (l : List Ent) (r0 : Nat) (value : Int) (s : Nat) (w : World) (hF : FileAt w base fb h l (r0 : Nat)) (hgo : goesR h l = 0) (hr0 : r0 ≤ 4611686018427387904) (hp : Parted (behindI (plE value) (linesB h l)) (linesB h l).length s) :
    Calls Tryd.prog 21 #[.pointer (some ⟨fb, 0, none⟩), .int .i64 value] w fun e w' =>
      ∃ v, e = .returned v ∧ w'.ownsRow w.heap.size 33 5 v (findA value (groups l) s r0).1.length (encE (findA value (groups l) s r0).1) ∧ FileAt w' base fb h l ((findA value (groups l) s r0).2 : Nat) ∧ w.grownBy w' (some fb) := by
  obtain ⟨hh, hl, hgd⟩ := goesR_good hgo
  have hs := goesR_sorted hgo
  have hfew := linesB_few h hgd hl
  refine (Find_calls base fb h l r0 value w hF (by omega) (linesB_sum h l) hl (linesB_pos h hgd) hr0 (behind_mono hs hgd _)).mono ?_
  rintro e w' ⟨s', v, hp', rfl, ho, hf, hg⟩
  obtain rfl := parted_eq hp hp'
  have e1 := findR_G h l value ((linesB h l).length - (s - 1)) (s - 1) [] r0 (by have := hp.1; rw [← linesB_length h l]; omega)
  rw [e1] at ho hf
  exact ⟨v, rfl, ho, hf, hg⟩

theorem PFrom_calls (base fb : Nat) (h : Hd) (l : List Ent) (r0 : Nat) (en : Ent) (most : Int) (hm : most ≤ 9223372036854775807) (s : Nat) (w : World) (hF : FileAt w base fb h l (r0 : Nat)) (hgo : goesR h l = 0) (hr0 : r0 ≤ 4611686018427387904) (hp : Parted (behindI en (linesB h l)) (linesB h l).length s) :
    Calls Tryd.prog 23 #[.pointer (some ⟨fb, 0, none⟩), en.val, .int .i64 most] w fun e w' =>
      ∃ v, e = .returned v ∧ w'.ownsRow w.heap.size 33 5 v (fromA en most (groups l) s r0).1.length (encE (fromA en most (groups l) s r0).1) ∧ FileAt w' base fb h l ((fromA en most (groups l) s r0).2 : Nat) ∧ w.grownBy w' (some fb) := by
  by_cases h1 : most < 1
  · refine (From0_calls fb en most h1 w).mono ?_
    rintro e w' ⟨rfl, hb⟩
    unfold fromA
    rw [if_pos h1]
    exact ⟨_, rfl, World.ownsRow_nil _ _ _ _, hF.below hb, below_grown fb hb⟩
  · obtain ⟨M, rfl⟩ : ∃ M : Nat, most = (M : Int) := ⟨most.toNat, by omega⟩
    obtain ⟨hh, hl, hgd⟩ := goesR_good hgo
    have hs := goesR_sorted hgo
    have hfew := linesB_few h hgd hl
    refine (From_calls base fb h l r0 en M (by omega) (by omega) w hF (by omega) (linesB_sum h l) hl (linesB_pos h hgd) hr0 (behind_mono hs hgd _)).mono ?_
    rintro e w' ⟨s', v, hp', rfl, ho, hf, hg⟩
    obtain rfl := parted_eq hp hp'
    have e1 := fromR_G h l en M ((linesB h l).length - (s - 1)) (s - 1) [] r0 (by have := hp.1; rw [← linesB_length h l]; omega)
    rw [e1] at ho hf
    unfold fromA
    rw [if_neg h1, Int.toNat_natCast]
    exact ⟨v, rfl, ho, hf, hg⟩

set_option maxRecDepth 100000 in
set_option maxHeartbeats 4000000 in
theorem RFrom0_calls (base fb : Nat) (h : Hd) (l : List Ent) (r0 : Nat) (en : Ent) (most : Int) (hm : most < 1) (s : Nat) (w : World) (hF : RFileAt w base fb h l (r0 : Nat)) (hgo : goesR h l = 0) (hp : Parted (behindI en (linesB h l)) (linesB h l).length s) :
    Calls Tryd.prog 27 #[.pointer (some ⟨fb, 0, none⟩), en.val, .int .i64 most] w fun e w' => e = .returned (.slice none 0 0) ∧ Below w.heap.size w w' := by
  have hbA : Below w.heap.size w (w.alloc (.cells #[.int .i64 en.v, .string en.c, .int .i64 en.i, .int .i64 en.s, .bool en.d] 33)) := (Below.refl _ w).alloc (Nat.le_refl _) _
  have CB := begin_calls base fb h l r0 en s _ (hF.below hbA) hgo hp
  unfold Ent.val at CB ⊢
  have hfb : fb < w.heap.size := hF.lt
  obtain ⟨lp, lc, q, c, hfc, hR⟩ := hF.rows
  obtain ⟨n, hn⟩ : ∃ n, l.length = n := ⟨_, rfl⟩
  obtain ⟨N, hN⟩ : ∃ N, (groups l).length = N := ⟨_, rfl⟩
  rw [hn, hN] at hfc
  obtain ⟨a0, ha0⟩ : ∃ a : Nat, aK (groups l) (s - 1) = a := ⟨_, rfl⟩
  obtain ⟨k0, hk0⟩ : ∃ a : Nat, s - 1 = a := ⟨_, rfl⟩
  rw [ha0, hk0] at CB
  have HCB := Lib.hid CB
  have HB : Hid (∀ W, Below (w.alloc (.cells #[.int .i64 en.v, .string en.c, .int .i64 en.i, .int .i64 en.s, .bool en.d] 33)).heap.size (w.alloc (.cells #[.int .i64 en.v, .string en.c, .int .i64 en.i, .int .i64 en.s, .bool en.d] 33)) W → Below w.heap.size w W ∧ W.heap[fb]? = some (rbC h lp n lc q N c (r0 : Nat))) := Lib.hid (fun W hW => ⟨hbA.trans (hW.mono (by simp)), ((hW.block _ (by simp; omega)).trans (Below.heap_alloc _ _ _ hfb)).trans hfc⟩)
  clear CB hF hR hfc hp hgo hbA
  go_enter Tryd.func27, Tryd.ntmps27
  go_wp2_with fail
  refine HCB.out.mono ?_
  rintro e w1 ⟨rfl, hb1⟩
  have H1 := Lib.hid (HB.out _ hb1)
  clear hb1 HB
  have hm0 : ¬ ((0 : Int) < most) := by omega
  go_wp2
  go_loopw [7, 10] (fun ov kv wr => ∃ k : Nat, kv = .int .i64 k ∧ ov = .slice none 0 0 ∧ Below w.heap.size w wr ∧ wr.heap[fb]? = some (rbC h lp n lc q N c (r0 : Nat))) (fun _ kv _ => N - (intOf kv).toNat)
  case atStart => exact ⟨k0, rfl, rfl, H1.out⟩
  case round =>
    obtain ⟨k, rfl, rfl, hB, hrw⟩ := hrel
    unfold rbC at hrw
    obtain ⟨x7, _⟩ := arr_cell hrw (k := 7) (v := .slice q N c) rfl
    have HBB := Lib.hid hB
    clear hrw hB
    by_cases hkN : k < N
    · have hk1 : (k : Int) < (N : Int) := by omega
      go_wp2
      go_ret
      exact ⟨rfl, HBB.out⟩
    · have hk1 : ¬ ((k : Int) < (N : Int)) := by omega
      go_wp2
      go_ret
      exact ⟨rfl, HBB.out⟩

theorem RFromA_calls (base fb : Nat) (h : Hd) (l : List Ent) (r0 : Nat) (en : Ent) (most : Int) (hm : most ≤ 9223372036854775807) (s : Nat) (w : World) (hF : RFileAt w base fb h l (r0 : Nat)) (hgo : goesR h l = 0) (hr0 : r0 ≤ 4611686018427387904) (hp : Parted (behindI en (linesB h l)) (linesB h l).length s) :
    Calls Tryd.prog 27 #[.pointer (some ⟨fb, 0, none⟩), en.val, .int .i64 most] w fun e w' =>
      ∃ v, e = .returned v ∧ w'.ownsRow w.heap.size 33 5 v (fromA en most (groups l) s r0).1.length (encE (fromA en most (groups l) s r0).1) ∧ RFileAt w' base fb h l ((fromA en most (groups l) s r0).2 : Nat) ∧ w.grownBy w' (some fb) := by
  by_cases h1 : most < 1
  · refine (RFrom0_calls base fb h l r0 en most h1 s w hF hgo hp).mono ?_
    rintro e w' ⟨rfl, hb⟩
    unfold fromA
    rw [if_pos h1]
    exact ⟨_, rfl, World.ownsRow_nil _ _ _ _, hF.below hb, below_grown fb hb⟩
  · obtain ⟨M, rfl⟩ : ∃ M : Nat, most = (M : Int) := ⟨most.toNat, by omega⟩
    unfold fromA
    rw [if_neg h1, Int.toNat_natCast]
    exact RFrom_calls base fb h l r0 en M (by omega) (by omega) s w hF hgo hr0 hp
end Go.Proofs.YtihgjihdmlomaaaDoor

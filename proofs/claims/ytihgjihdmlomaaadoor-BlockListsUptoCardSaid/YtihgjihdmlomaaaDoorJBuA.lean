/-
  WALKS: eight letters; Find and From of a file that was built; what the laws ask first.
-/
import Derived.Test.YtihgjihdmlomaaaDoorJBtC
import Derived.Test.YtihgjihdmlomaaaDoorJBsI
import Derived.Test.YtihgjihdmlomaaaDoorJH
namespace Go.Proofs.YtihgjihdmlomaaaDoor
open Go.RowKit ArgK
set_option linter.unusedVariables false

def lettersB (c : UInt8) : ByteArray := ⟨#[c, c, c, c, c, c, c, c]⟩

set_option maxRecDepth 100000 in
theorem letters_calls (c : UInt8) (w : World) : Calls Tryd.prog 50 #[.int .u8 (c.toNat : Int)] w fun e w' => e = .returned (.string (lettersB c)) ∧ Below w.heap.size w w' := by
  have h1 := World.alloc_heap_new w (.cells #[.int .u8 (c.toNat : Int), .int .u8 (c.toNat : Int), .int .u8 (c.toNat : Int), .int .u8 (c.toNat : Int), .int .u8 (c.toNat : Int), .int .u8 (c.toNat : Int), .int .u8 (c.toNat : Int), .int .u8 (c.toNat : Int)] 5)
  have hB : Bys (w.alloc (.cells #[.int .u8 (c.toNat : Int), .int .u8 (c.toNat : Int), .int .u8 (c.toNat : Int), .int .u8 (c.toNat : Int), .int .u8 (c.toNat : Int), .int .u8 (c.toNat : Int), .int .u8 (c.toNat : Int), .int .u8 (c.toNat : Int)] 5)) w.heap.size 5 [c, c, c, c, c, c, c, c] := by
    refine ⟨_, _, _, h1, .inl (Nat.le_refl _), fun i hi => ?_⟩
    simp only [List.length_cons, List.length_nil] at hi
    rcases (show i = 0 ∨ i = 1 ∨ i = 2 ∨ i = 3 ∨ i = 4 ∨ i = 5 ∨ i = 6 ∨ i = 7 by omega) with rfl | rfl | rfl | rfl | rfl | rfl | rfl | rfl <;> rfl
  have hcv := hB.toStr (P := Tryd.prog) 53 9 5 Tryd.underlying53 Tryd.underlying5 Tryd.underlying9 8 8 rfl
  have hbl : Below w.heap.size w (w.alloc (.cells #[.int .u8 (c.toNat : Int), .int .u8 (c.toNat : Int), .int .u8 (c.toNat : Int), .int .u8 (c.toNat : Int), .int .u8 (c.toNat : Int), .int .u8 (c.toNat : Int), .int .u8 (c.toNat : Int), .int .u8 (c.toNat : Int)] 5)) := (Below.refl _ w).alloc (Nat.le_refl _) _
  clear hB h1
  go_enter Tryd.func50, Tryd.ntmps50
  go_wp2
  go_ret
  exact ⟨rfl, hbl⟩

/-- What From tells. -/
def fromL (en : Ent) (most : Int) (l : List Ent) : List Ent := if most < 1 then [] else l.foldl (addF en most.toNat) []

theorem linesB_n (h : Hd) (n : Int) (l : List Ent) : linesB ⟨h.w, h.t, h.b, h.lo, h.hi, n⟩ l = linesB h l := rfl

theorem Find_law (base fb : Nat) (h : Hd) (l : List Ent) (r0 : Nat) (value : Int) (w : World) (hF : FileAt w base fb h l r0) (hgo : goesR h l = 0) (hr0 : r0 ≤ 4611686018427387904) :
    Calls Tryd.prog 21 #[.pointer (some ⟨fb, 0, none⟩), .int .i64 value] w fun e w' =>
      ∃ v r, e = .returned v ∧ w'.ownsRow w.heap.size 33 5 v (l.filter (fun x => decide (x.v = value))).length (encE (l.filter (fun x => decide (x.v = value)))) ∧ FileAt w' base fb h l (r : Nat) ∧ w.grownBy w' (some fb) ∧
        r0 ≤ r ∧ r ≤ r0 + (l.filter (fun x => decide (x.v = value))).length + 2 ∧ r ≤ r0 + 131072 ∧ (0 < l.length → r0 + 1 ≤ r) := by
  obtain ⟨hh, hl, hgd⟩ := goesR_good hgo
  have hs := goesR_sorted hgo
  have hfew := linesB_few h hgd hl
  refine (Find_calls base fb h l r0 value w hF (by omega) (linesB_sum h l) hl (linesB_pos h hgd) hr0 (behind_mono hs hgd _)).mono ?_
  rintro e w' ⟨s, v, hp, rfl, ho, hf, hg⟩
  obtain ⟨f1, f2, f3, f4, f5⟩ := find_law hgo value r0 s hp
  rw [f1] at ho
  exact ⟨v, _, rfl, ho, hf, hg, f2, f3, by omega, f5⟩

theorem From_law (base fb : Nat) (h : Hd) (l : List Ent) (r0 : Nat) (en : Ent) (most : Int) (hm : most ≤ 9223372036854775807) (w : World) (hF : FileAt w base fb h l r0) (hgo : goesR h l = 0) (hr0 : r0 ≤ 4611686018427387904) :
    Calls Tryd.prog 23 #[.pointer (some ⟨fb, 0, none⟩), en.val, .int .i64 most] w fun e w' =>
      ∃ v r, e = .returned v ∧ w'.ownsRow w.heap.size 33 5 v (fromL en most l).length (encE (fromL en most l)) ∧ FileAt w' base fb h l (r : Nat) ∧ w.grownBy w' (some fb) ∧
        r0 ≤ r ∧ r ≤ r0 + 131072 ∧ (most < 1 → r = r0) := by
  by_cases h1 : most < 1
  · refine (From0_calls fb en most h1 w).mono ?_
    rintro e w' ⟨rfl, hb⟩
    unfold fromL
    rw [if_pos h1]
    exact ⟨_, r0, rfl, World.ownsRow_nil _ _ _ _, hF.below hb, ⟨hb.os, hb.tape, hb.output, hb.size, fun k hk _ => hb.block k hk⟩, Nat.le_refl _, by omega, fun _ => rfl⟩
  · obtain ⟨M, rfl⟩ : ∃ M : Nat, most = (M : Int) := ⟨most.toNat, by omega⟩
    obtain ⟨hh, hl, hgd⟩ := goesR_good hgo
    have hs := goesR_sorted hgo
    have hfew := linesB_few h hgd hl
    refine (From_calls base fb h l r0 en M (by omega) (by omega) w hF (by omega) (linesB_sum h l) hl (linesB_pos h hgd) hr0 (behind_mono hs hgd _)).mono ?_
    rintro e w' ⟨s, v, hp, rfl, ho, hf, hg⟩
    obtain ⟨f1, f2, f3⟩ := from_law hgo en M r0 s hp
    rw [f1] at ho
    unfold fromL
    rw [if_neg h1, Int.toNat_natCast]
    exact ⟨v, _, rfl, ho, hf, hg, f2, by omega, fun h => absurd h h1⟩

/-- What is below stays, though a file's own count turns. -/
theorem below_file {w A B' : World} {fb : Nat} (hA : Below w.heap.size w A) (hg : A.grownBy B' (some fb)) (hfb : w.heap.size ≤ fb) : Below w.heap.size w B' :=
  hA.grown hg hA.size (fun k hk => by cases hk; exact hfb)

theorem goesR_n (h : Hd) (n : Int) (l : List Ent) : goesR ⟨h.w, h.t, h.b, h.lo, h.hi, n⟩ l = goesR h l := by
  unfold goesR
  rw [goesGo_n]
  rfl

/-- What Open makes of a built file. -/
def OpenedPost (w : World) (h : Hd) (l : List Ent) (e : Ending) (w' : World) : Prop :=
  ∃ fb, e = .returned (.tuple #[.pointer (some ⟨fb, 0, none⟩), .int .i64 0]) ∧ FileAt w' w.heap.size fb ⟨h.w, h.t, h.b, h.lo, h.hi, (l.length : Nat)⟩ l ((0 : Nat) : Int) ∧ w.heap.size ≤ fb ∧ Below w.heap.size w w'
theorem Open_built {h : Hd} {l : List Ent} (hg : goesR h l = 0) (w : World) (hT : Tab w) :
    Calls Tryd.prog 15 #[.string ⟨(fileB h l).toArray⟩] w (OpenedPost w h l) := by
  obtain ⟨hh, hl, hgd⟩ := goesR_good hg
  have h1 := fileB_len h hgd
  have h2 := (framesR_le (fileB h l)).1
  have hs : (⟨(fileB h l).toArray⟩ : ByteArray).size = (fileB h l).length := by show (fileB h l).toArray.size = _; simp
  have he : (⟨(fileB h l).toArray⟩ : ByteArray).data.toList = fileB h l := rfl
  refine (Open_calls ⟨(fileB h l).toArray⟩ (by rw [hs]; omega) (by rw [he]; omega) w hT).mono ?_
  rintro e w' ⟨hb, ⟨h3, _⟩ | ⟨h', l', fb, h3, rfl, hf⟩⟩
  · rw [he, openR_fileB hg] at h3
    cases h3
  · rw [he, openR_fileB hg] at h3
    cases h3
    have hle := hf
    obtain ⟨_, _, _, _, _, _, _, hle⟩ := hle
    exact ⟨fb, rfl, hf, hle, hb⟩

def bgA : Ent := ⟨1, lettersB 97, 5, 2, false⟩
def bgB : Ent := ⟨3, lettersB 98, 4, 1, true⟩
def bgH : Hd := ⟨64, 0, 8, 0, 9, 0⟩
theorem bg_goes : goesR bgH [bgA, bgB] = 0 := by kernel_rfl
theorem bg_not : goesR bgH [bgB, bgA] = 50 := by kernel_rfl
theorem bg_find : [bgA, bgB].filter (fun x => decide (x.v = 3)) = [bgB] := by kernel_rfl
theorem bg_from : fromL bgA 1 [bgA, bgB] = [bgA] := by
  have h1 : cmpE bgA bgA = 0 := cmpE_refl _
  unfold fromL
  rw [if_neg (by decide)]
  simp [addF, h1]

theorem el_two (w : World) (x y : Ent) : EL (w.alloc (.cells #[.int .i64 x.v, .string x.c, .int .i64 x.i, .int .i64 x.s, .bool x.d, .int .i64 y.v, .string y.c, .int .i64 y.i, .int .i64 y.s, .bool y.d] 33)) (w.heap.size + 1) (some ⟨w.heap.size, 0, none⟩) [x, y] := by
  have hb := World.alloc_heap_new w (.cells #[.int .i64 x.v, .string x.c, .int .i64 x.i, .int .i64 x.s, .bool x.d, .int .i64 y.v, .string y.c, .int .i64 y.i, .int .i64 y.s, .bool y.d] 33)
  generalize w.alloc (.cells #[.int .i64 x.v, .string x.c, .int .i64 x.i, .int .i64 x.s, .bool x.d, .int .i64 y.v, .string y.c, .int .i64 y.i, .int .i64 y.s, .bool y.d] 33) = W at hb ⊢
  intro i z hz
  match i, hz with
  | 0, h =>
    simp at h; subst h
    exact ⟨_, rfl, Nat.lt_succ_self _, by simp [Addr.add, World.cell?, hb], by simp [Addr.add, World.cell?, hb], by simp [Addr.add, World.cell?, hb], by simp [Addr.add, World.cell?, hb], by simp [Addr.add, World.cell?, hb]⟩
  | 1, h =>
    simp at h; subst h
    exact ⟨_, rfl, Nat.lt_succ_self _, by simp [Addr.add, World.cell?, hb], by simp [Addr.add, World.cell?, hb], by simp [Addr.add, World.cell?, hb], by simp [Addr.add, World.cell?, hb], by simp [Addr.add, World.cell?, hb]⟩
end Go.Proofs.YtihgjihdmlomaaaDoor

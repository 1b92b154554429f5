/-
  WALKS: the program's writer: hits.
-/
import Derived.Test.YtabhjkaheghbhaaWr2
import Derived.Outline
import Derived.BigRegion
import Derived.Deep.QuietTactic
import Derived.BigQuiet
namespace Go.Proofs.Ytabhjkaheghbhaa
open Go.RowKit
set_option linter.unusedVariables false

structure Hv where
  d : Int
  i : Int
  c : ByteArray
/-- The three cells of a hit. -/
def Three (w : World) (p : Addr) (x : Hv) : Prop :=
  w.cell? p = some (.int .i64 x.d) ∧ w.cell? ⟨p.block, p.off + 1, none⟩ = some (.int .i64 x.i) ∧ w.cell? ⟨p.block, p.off + 2, none⟩ = some (.string x.c)
theorem add_block (a : Addr) (k : Nat) : (a.add k).block = a.block := by unfold Addr.add; split <;> rfl
theorem Three.below {w w' : World} {p : Addr} {x : Hv} (h : Three w p x) {B : Nat} (hb : Below B w w') (hB : p.block < B) : Three w' p x :=
  ⟨(hb.cell hB).trans h.1, (hb.cell (p := ⟨p.block, p.off + 1, none⟩) hB).trans h.2.1, (hb.cell (p := ⟨p.block, p.off + 2, none⟩) hB).trans h.2.2⟩
theorem Three.lt {w : World} {p : Addr} {x : Hv} (h : Three w p x) : p.block < w.heap.size := cell_lt' h.1
/-- A list of hits in memory, below B. -/
def HR (w : World) (B : Nat) (p : Option Addr) (z : List Hv) : Prop := ∀ i x, z[i]? = some x → ∃ a, p = some a ∧ a.block < B ∧ Three w (a.add (i * 3)) x
theorem HR.below {w w' : World} {B : Nat} {p : Option Addr} {z : List Hv} (h : HR w B p z) (hb : Below B w w') : HR w' B p z := by
  intro i x hx
  obtain ⟨a, e, h1, h2⟩ := h i x hx
  exact ⟨a, e, h1, h2.below hb (by rw [add_block]; exact h1)⟩
/-- Does a hit stand behind another? -/
def behB (x y : Hv) : Bool := decide (x.d < y.d) || (x.d == y.d && decide (x.i < y.i))
def hitB (x : Hv) : List UInt8 := vNum x.d ++ vNum x.i ++ vNum x.c.size ++ x.c.data.toList
def hitsB (z : List Hv) : List UInt8 := z.flatMap hitB
def hitE (o : Bool) (x : Hv) (e : Int) : Int := rf o 50 (rf (decide (65536 < (x.c.size : Int))) 36 (rf (decide (x.i < 0)) 13 (rf (decide (x.d < 0)) 13 e)))
/-- Does hit k of a list stand out of order? -/
def outO (z : List Hv) (k : Nat) : Bool := match k with
  | 0 => false
  | k + 1 => match z[k]?, z[k + 1]? with
    | some y, some x => !behB y x
    | _, _ => false
def hitsE (z : List Hv) : Nat → Int → Int
  | 0, e => e
  | k + 1, e => match z[k]? with
    | some x => hitE (outO z k) x (hitsE z k e)
    | none => hitsE z k e
theorem hitsE_step (z : List Hv) (k : Nat) (e : Int) (x : Hv) (h : z[k]? = some x) : hitsE z (k + 1) e = hitE (outO z k) x (hitsE z k e) := by simp [hitsE, h]
theorem hitsB_step (z : List Hv) (k : Nat) (x : Hv) (h : z[k]? = some x) : hitsB (z.take (k + 1)) = hitsB (z.take k) ++ hitB x := by
  unfold hitsB
  rw [List.take_add_one, h]
  simp
theorem hitsB_le (z : List Hv) (k : Nat) : (hitsB (z.take k)).length ≤ (hitsB z).length := by
  have : hitsB z = hitsB (z.take k) ++ hitsB (z.drop k) := by
    unfold hitsB
    rw [← List.flatMap_append, List.take_append_drop]
  rw [this, List.length_append]
  omega

theorem three_box (w : World) (x : Hv) (T : TypeId) : Three (w.alloc (.cells #[.int .i64 x.d, .int .i64 x.i, .string x.c] T)) ⟨w.heap.size, 0, none⟩ x := by
  have := World.alloc_heap_new w (.cells #[.int .i64 x.d, .int .i64 x.i, .string x.c] T)
  exact ⟨by unfold World.cell?; rw [this]; rfl, by unfold World.cell?; rw [this]; rfl, by unfold World.cell?; rw [this]; rfl⟩
set_option maxRecDepth 100000 in
theorem behind_calls (x y : Hv) (w : World) :
    Calls Try.prog 94 #[.agg #[.int .i64 x.d, .int .i64 x.i, .string x.c], .agg #[.int .i64 y.d, .int .i64 y.i, .string y.c]] w fun e w' => e = .returned (.bool (behB x y)) ∧ Below w.heap.size w w' := by
  have HB := Lib.hid (((Below.refl w.heap.size w).alloc (Nat.le_refl _) (.cells #[.int .i64 x.d, .int .i64 x.i, .string x.c] 35)).alloc (by simp) (.cells #[.int .i64 y.d, .int .i64 y.i, .string y.c] 35))
  unfold behB
  by_cases h1 : x.d < y.d
  · have d1 : decide (x.d < y.d) = true := by simpa using h1
    rw [d1, Bool.true_or]
    go_enter Try.func94, Try.ntmps94
    go_wp2
    go_ret
    exact ⟨rfl, HB.out⟩
  · have d1 : decide (x.d < y.d) = false := by simpa using h1
    rw [d1, Bool.false_or]
    by_cases h2 : x.d = y.d
    · have d2 : (x.d == y.d) = true := by rw [beq_iff_eq]; exact h2
      rw [d2, Bool.true_and]
      generalize d3 : decide (x.i < y.i) = b3
      clear h1 h2
      go_enter Try.func94, Try.ntmps94
      go_wp2
      go_ret
      exact ⟨rfl, HB.out⟩
    · have d2 : (x.d == y.d) = false := by rw [beq_eq_false_iff_ne]; exact h2
      rw [d2, Bool.false_and]
      clear h1 h2
      go_enter Try.func94, Try.ntmps94
      go_wp2
      go_ret
      exact ⟨rfl, HB.out⟩

theorem three_pair {W : World} {p : Addr} {y x : Hv} {q : Nat} {T : TypeId} (h : Three W p y) (hq : W.heap[q]? = some (.cells #[.int .i64 x.d, .int .i64 x.i, .string x.c] T (0, 0))) :
    W.cell? p = some (.int .i64 y.d) ∧ W.cell? ⟨p.block, p.off + 1, none⟩ = some (.int .i64 y.i) ∧ W.cell? ⟨p.block, p.off + 2, none⟩ = some (.string y.c) ∧ W.cell? ⟨q, 0, none⟩ = some (.int .i64 x.d) ∧ W.cell? ⟨q, 1, none⟩ = some (.int .i64 x.i) ∧ W.cell? ⟨q, 2, none⟩ = some (.string x.c) :=
  ⟨h.1, h.2.1, h.2.2, by unfold World.cell?; rw [hq]; rfl, by unfold World.cell?; rw [hq]; rfl, by unfold World.cell?; rw [hq]; rfl⟩
theorem wrefuse_no (r : Nat) (E : Int) (w : World) :
    Calls Try.prog 83 #[.pointer (some ⟨r, 0, none⟩), .bool false, .int .i64 E] w fun x w' => x = .returned (.tuple #[]) ∧ w = w' := by
  go_enter Try.func83, Try.ntmps83
  go_wp2
  go_end0
  exact ⟨rfl, rfl⟩

set_option maxRecDepth 100000 in
set_option maxHeartbeats 2000000 in
theorem whits_calls (B r : Nat) (l : List UInt8) (p : Option Addr) (cap : Nat) (z : List Hv) (w : World) (h : Wr w B r l 0) (hz : HR w B p z) (hn : z.length ≤ 65536) (hlen : l.length + (hitsB z).length + 64 ≤ 140737488355328) :
    Calls Try.prog 91 #[.pointer (some ⟨r, 0, none⟩), .slice p z.length cap] w fun x w' => x = .returned (.tuple #[]) ∧ Wr w' B r (l ++ vNum z.length ++ hitsB z) (hitsE z z.length 0) ∧ Below B w w' ∧ Oth w w' r := by
  have hnl := vNum_len z.length
  have C := Lib.hid (wrefuse_calls B r l 0 false 43 w h)
  have D := Lib.hid (fun W h => wnumber_calls B r l 0 z.length W h (by omega))
  have hd43 : decide (65536 < (z.length : Int)) = false := by simp; omega
  have hdn : decide ((z.length : Int) < 0) = false := by simp
  have hr1 : rf false 43 0 = 0 := by simp [rf]
  have hr2 : rf false 13 0 = 0 := by simp [rf]
  rw [hr1] at C
  rw [hdn, hr2] at D
  have HZ := Lib.hid hz
  have WN := Lib.hid (fun (l : List UInt8) (e n : Int) W (h : Wr W B r l e) hl => wnumber_calls B r l e n W h hl)
  have WT := Lib.hid (fun (l : List UInt8) (e : Int) (s : ByteArray) W (h : Wr W B r l e) hl => wtext_calls B r l e s W h hl)
  have WB := Lib.hid (fun (x y : Hv) W => behind_calls x y W)
  have WF0 := Lib.hid (fun W => wrefuse_no r 50 W)
  have WF := Lib.hid (fun (l : List UInt8) (e : Int) (is : Bool) W (h : Wr W B r l e) => wrefuse_calls B r l e is 50 W h)
  obtain ⟨n, hnn⟩ : ∃ n, z.length = n := ⟨_, rfl⟩
  have hBr := h.le
  rw [hnn] at hn hnl hd43 hdn D ⊢
  have HN := Lib.hid hnn
  have HL := Lib.hid hlen
  generalize hl0 : l ++ vNum n = l0 at D ⊢
  have hl0n : l0.length ≤ l.length + 10 := by rw [← hl0, List.length_append]; omega
  clear hl0 hnl
  have HLN := Lib.hid hl0n
  clear hl0n
  clear h hz hnn hr1 hr2 hlen
  go_enter Try.func91, Try.ntmps91
  go_wp2_with fail
  refine C.out.mono ?_
  rintro x w1 ⟨rfl, h1, b1, o1⟩
  have c1 := h1.cells.1
  have H1 := Lib.hid h1
  clear h1
  go_wp2_with fail
  refine (D.out _ H1.out).mono ?_
  rintro x w2 ⟨rfl, h2, b2, o2⟩
  have H2 := Lib.hid h2
  have HB2 := Lib.hid (b1.trans b2)
  have HO2 := Lib.hid (o1.trans o2)
  clear h2 b1 b2 o1 o2 c1 C D H1
  go_wp2
  go_loopw [22] (fun i ws => ∃ k : Nat, k ≤ n ∧ i = .int .i64 k ∧ Hid (Wr ws B r (l0 ++ hitsB (z.take k)) (hitsE z k 0)) ∧ Hid (Below B w ws) ∧ Hid (Oth w ws r)) (fun i _ => n - (intOf i).toNat)
  case atStart => exact ⟨0, Nat.zero_le _, rfl, Lib.hid (by simpa [hitsB, hitsE] using H2.out), HB2, HO2⟩
  case round =>
    obtain ⟨k, hk, rfl, HW, HB, HO⟩ := hrel
    clear HB2 HO2 H2
    by_cases hlt : k < n
    · have hd : decide ((k : Int) < (n : Int)) = true := by simpa using hlt
      obtain ⟨x, hx⟩ : ∃ x, z[k]? = some x := ⟨_, List.getElem?_eq_getElem (by rw [HN.out]; exact hlt)⟩
      obtain ⟨a, rfl, hab, f0⟩ := (HZ.out.below HB.out) k x hx
      obtain ⟨u0, u1, u2⟩ := f0
      have HX := Lib.hid hx
      have hle := hitsB_le z (k + 1)
      rw [hitsB_step z k x hx] at hle
      have hbl : (hitsB (z.take k) ++ hitB x).length = (hitsB (z.take k)).length + ((vNum x.d).length + (vNum x.i).length + (vNum x.c.size).length + x.c.size) := by
        unfold hitB
        simp only [List.length_append]
        rfl
      rw [hbl] at hle
      have hln : ∀ e : Int, (vNum e).length ≤ 10 := vNum_len
      have HA := Lib.hid (HW.out.alloc (.cells #[.int .i64 x.d, .int .i64 x.i, .string x.c] 35))
      have HBa := Lib.hid (HB.out.alloc (Nat.le_trans hBr (Nat.le_of_lt HW.out.lt)) (.cells #[.int .i64 x.d, .int .i64 x.i, .string x.c] 35))
      have HOa := Lib.hid (HO.out.trans (Oth.below r ((Below.refl wr.heap.size wr).alloc (Nat.le_refl _) (.cells #[.int .i64 x.d, .int .i64 x.i, .string x.c] 35))))
      have KA := Lib.hid (World.alloc_heap_new wr (.cells #[.int .i64 x.d, .int .i64 x.i, .string x.c] 35))
      have hqr : wr.heap.size ≠ r := by have := HW.out.lt; omega
      have L1 : Hid ((l0 ++ hitsB (z.take k)).length + 10 ≤ 140737488355328) := Lib.hid (by have := HL.out; have := HLN.out; rw [List.length_append]; omega)
      have L2 : Hid ((l0 ++ hitsB (z.take k) ++ vNum x.d).length + 10 ≤ 140737488355328) := Lib.hid (by have := HL.out; have := HLN.out; rw [List.length_append, List.length_append]; omega)
      have L3 : Hid ((l0 ++ hitsB (z.take k) ++ vNum x.d ++ vNum x.i).length + 10 + x.c.size ≤ 140737488355328) := Lib.hid (by have := HL.out; have := HLN.out; have := hln x.c.size; rw [List.length_append, List.length_append, List.length_append]; omega)
      clear hle hbl hln hx
      go_wp2_with fail
      obtain ⟨q, hq⟩ : ∃ q, wr.heap.size = q := ⟨_, rfl⟩
      generalize wr.alloc (.cells #[.int .i64 x.d, .int .i64 x.i, .string x.c] 35) = wa at HA HBa HOa KA ⊢
      rw [hq] at KA hqr ⊢
      clear hq u0 u1 u2 HW HB HO
      refine (WN.out _ _ _ _ HA.out L1.out).mono ?_
      rintro _ wb ⟨rfl, h1, b1, o1⟩
      have HA1 := Lib.hid h1
      have HB1 := Lib.hid (HBa.out.trans b1)
      have HO1 := Lib.hid (HOa.out.trans o1)
      have KA1 := Lib.hid ((o1 _ _ _ _ hqr (by decide) KA.out).trans KA.out)
      clear h1 b1 o1 HA HBa HOa KA
      have i1 : wb.cell? ⟨q, 1, none⟩ = some (.int .i64 x.i) := by unfold World.cell?; rw [KA1.out]; rfl
      go_wp2_with fail
      refine (WN.out _ _ _ _ HA1.out L2.out).mono ?_
      rintro _ wd ⟨rfl, h1, b1, o1⟩
      have HA2 := Lib.hid h1
      have HB2 := Lib.hid (HB1.out.trans b1)
      have HO2 := Lib.hid (HO1.out.trans o1)
      have KA2 := Lib.hid ((o1 _ _ _ _ hqr (by decide) KA1.out).trans KA1.out)
      clear h1 b1 o1 HA1 HB1 HO1 KA1 i1
      have i2 : wd.cell? ⟨q, 2, none⟩ = some (.string x.c) := by unfold World.cell?; rw [KA2.out]; rfl
      go_wp2_with fail
      refine (WT.out _ _ _ _ HA2.out L3.out).mono ?_
      rintro _ we ⟨rfl, h1, b1, o1⟩
      have HA3 := Lib.hid h1
      have HB3 := Lib.hid (HB2.out.trans b1)
      have HO3 := Lib.hid (HO2.out.trans o1)
      have KA3 := Lib.hid ((o1 _ _ _ _ hqr (by decide) KA2.out).trans KA2.out)
      clear h1 b1 o1 HA2 HB2 HO2 KA2 i2
      have HBS : Hid (l0 ++ hitsB (z.take k) ++ vNum x.d ++ vNum x.i ++ vNum x.c.size ++ x.c.data.toList = l0 ++ hitsB (z.take (k + 1))) := Lib.hid (by rw [hitsB_step z k x HX.out]; simp [hitB])
      rw [HBS.out] at HA3
      generalize he : rf (decide (65536 < (x.c.size : Int))) 36 (rf (decide (x.i < 0)) 13 (rf (decide (x.d < 0)) 13 (hitsE z k 0))) = e at HA3
      have HES : Hid (hitsE z (k + 1) 0 = rf (outO z k) 50 e) := Lib.hid (by rw [hitsE_step z k 0 x HX.out, ← he]; rfl)
      clear he
      have hsz : q < we.heap.size := (Array.getElem?_eq_some_iff.1 KA3.out).1
      by_cases h0 : k = 0
      · have hg : decide (0 < (k : Int)) = false := by simp; omega
        have hgn : decide (0 < k) = false := by simp; omega
        have HES2 : Hid (hitsE z (k + 1) 0 = rf false 50 e) := Lib.hid (by have := HES.out; subst h0; exact this)
        clear h0
        go_wp2
        go_quiet ((go_at_call 83; exact quiet_left (WF0.out _)))
        have HN1 : Hid (Wr (we.drewN nq) B r (l0 ++ hitsB (z.take (k + 1))) (hitsE z (k + 1) 0)) := Lib.hid (by
          have h9 : rf false 50 e = e := by simp [rf]
          rw [HES2.out, h9]
          exact HA3.out.drewN nq)
        have HN2 : Hid (Below B w (we.drewN nq)) := Lib.hid (HB3.out.trans (drewN_below B we nq))
        have HN3 : Hid (Oth w (we.drewN nq) r) := Lib.hid (HO3.out.trans (fun _ _ _ _ _ _ _ => rfl))
        go_wp2
        go_roundw
        case rel => exact ⟨k + 1, by omega, by go_num, HN1, HN2, HN3⟩
        case measure => simp [intOf]; omega
      · obtain ⟨d, hdk⟩ : ∃ d, k = d + 1 := ⟨k - 1, by omega⟩
        obtain ⟨y, hy⟩ : ∃ y, z[d]? = some y := ⟨_, List.getElem?_eq_getElem (by rw [HN.out]; omega)⟩
        have HOO : Hid (outO z k = !behB y x) := Lib.hid (by have := HX.out; subst hdk; simp [outO, hy, this])
        obtain ⟨a', he', _, f1⟩ := (HZ.out.below HB3.out.drew) d y hy
        cases he'
        have X3 : Three we.drew ⟨q, 0, none⟩ x := ⟨by unfold World.cell?; show (match we.heap[q]? with | some (.cells c elem frozen) => c[0]? | _ => none) = _; rw [KA3.out]; rfl, by unfold World.cell?; show (match we.heap[q]? with | some (.cells c elem frozen) => c[1]? | _ => none) = _; rw [KA3.out]; rfl, by unfold World.cell?; show (match we.heap[q]? with | some (.cells c elem frozen) => c[2]? | _ => none) = _; rw [KA3.out]; rfl⟩
        have hal : (a.add (d * 3)).block < we.heap.size := by rw [add_block]; exact Nat.lt_of_lt_of_le hab (Nat.le_trans hBr (Nat.le_of_lt HA3.out.lt))
        have s0 : we.drew.cell? (a.add (d * 3)) = some (.int .i64 y.d) ∧ we.drew.cell? ⟨(a.add (d * 3)).block, (a.add (d * 3)).off + 1, none⟩ = some (.int .i64 y.i) ∧ we.drew.cell? ⟨(a.add (d * 3)).block, (a.add (d * 3)).off + 2, none⟩ = some (.string y.c) ∧ we.drew.cell? ⟨q, 0, none⟩ = some (.int .i64 x.d) ∧ we.drew.cell? ⟨q, 1, none⟩ = some (.int .i64 x.i) ∧ we.drew.cell? ⟨q, 2, none⟩ = some (.string x.c) := ⟨f1.1, f1.2.1, f1.2.2, X3.1, X3.2.1, X3.2.2⟩
        have PS := Lib.hid (fun (wg : World) (bg : Below we.drew.heap.size we.drew wg) => (⟨(f1.below bg hal).1, (f1.below bg hal).2.1, (f1.below bg hal).2.2, (X3.below bg hsz).1, (X3.below bg hsz).2.1, (X3.below bg hsz).2.2⟩ : wg.cell? (a.add (d * 3)) = some (.int .i64 y.d) ∧ wg.cell? ⟨(a.add (d * 3)).block, (a.add (d * 3)).off + 1, none⟩ = some (.int .i64 y.i) ∧ wg.cell? ⟨(a.add (d * 3)).block, (a.add (d * 3)).off + 2, none⟩ = some (.string y.c) ∧ wg.cell? ⟨q, 0, none⟩ = some (.int .i64 x.d) ∧ wg.cell? ⟨q, 1, none⟩ = some (.int .i64 x.i) ∧ wg.cell? ⟨q, 2, none⟩ = some (.string x.c)))
        have PF := Lib.hid (fun (wg : World) (bg : Below we.drew.heap.size we.drew wg) (wf : World) (bf : Below B wg wf) (of : Oth wg wf r) => three_pair ((f1.below bg hal).below bf (by rw [add_block]; exact hab)) (x := x) (q := q) ((of q _ _ _ hqr (by decide) ((bg.block q hsz).trans KA3.out)).trans ((bg.block q hsz).trans KA3.out)))
        have hg : decide (0 < (k : Int)) = true := by simp; omega
        have hgn : decide (0 < k) = true := by simp; omega
        have hki : (k : Int) - 1 = (d : Int) := by omega
        have hkw : IntKind.i64.wrap ((k : Int) - 1) = (d : Int) := by rw [hki, IntKind.wrap_i64]; omega
        have hdn : (d : Int) < (n : Int) := by omega
        have HKD := Lib.hid hdk
        clear f1 X3 hal hy hki h0 hdk
        go_wp2
        go_region_held3 (fun W => W.cell? (a.add (d * 3)) = some (.int .i64 y.d) ∧ W.cell? ⟨(a.add (d * 3)).block, (a.add (d * 3)).off + 1, none⟩ = some (.int .i64 y.i) ∧ W.cell? ⟨(a.add (d * 3)).block, (a.add (d * 3)).off + 2, none⟩ = some (.string y.c) ∧ W.cell? ⟨q, 0, none⟩ = some (.int .i64 x.d) ∧ W.cell? ⟨q, 1, none⟩ = some (.int .i64 x.i) ∧ W.cell? ⟨q, 2, none⟩ = some (.string x.c))
          (first | with_reducible exact s0 | with_reducible exact sg | with_reducible exact sf | fail)
          (first | (go_at_call 94; refine (WB.out y x _).mono ?_; rintro _ wg ⟨rfl, bg⟩; have sg := PS.out wg bg) | (go_at_call 83; refine (WF.out _ _ _ _ ((HA3.out.drewN 1).below bg)).mono ?_; rintro _ wf ⟨rfl, hf, bf, of⟩; have sf := PF.out wg bg wf bf of))
        rw [← HOO.out, ← HES.out] at hf
        have HN1 := Lib.hid hf
        have HN2 := Lib.hid ((HB3.out.drew.trans (bg.mono (Nat.le_trans hBr (Nat.le_of_lt HA3.out.lt)))).trans bf)
        have HN3 := Lib.hid (((HO3.out.trans (Oth.drew _ _)).trans (Oth.below r bg)).trans of)
        go_wp2
        go_roundw
        case rel => exact ⟨k + 1, by omega, by go_num, HN1, HN2, HN3⟩
        case measure => simp [intOf]; omega
    · obtain rfl : k = n := by omega
      have hd : decide ((k : Int) < (k : Int)) = false := by simp
      have HW2 : Hid (Wr wr B r (l0 ++ hitsB z) (hitsE z k 0)) := Lib.hid (by have := HW.out; rwa [List.take_of_length_le (by rw [HN.out]; exact Nat.le_refl _)] at this)
      go_wp2
      go_end0
      exact ⟨rfl, HW2.out, HB.out, HO.out⟩
end Go.Proofs.Ytabhjkaheghbhaa

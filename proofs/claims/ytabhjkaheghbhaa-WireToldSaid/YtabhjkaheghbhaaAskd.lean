/-
  WALKS: reading a request, by the program.
-/
import Derived.Test.YtabhjkaheghbhaaRead2
import Derived.Test.YtabhjkaheghbhaaOps
namespace Go.Proofs.Ytabhjkaheghbhaa
open Go.RowKit
set_option linter.unusedVariables false

/-- A request in memory. -/
def Rq (w : World) (q : Nat) (op id : Int) (c : ByteArray) (k rr : Int) : Prop := w.heap[q]? = some (.cells #[.int .i64 op, .int .i64 id, .string c, .int .i64 k, .int .i64 rr] 24 (0, 0))
theorem Rq.cells {w : World} {q : Nat} {op id : Int} {c : ByteArray} {k rr : Int} (h : Rq w q op id c k rr) :
    w.cell? ⟨q, 0, none⟩ = some (.int .i64 op) ∧ w.cell? ⟨q, 1, none⟩ = some (.int .i64 id) ∧ w.cell? ⟨q, 2, none⟩ = some (.string c) ∧ w.cell? ⟨q, 3, none⟩ = some (.int .i64 k) ∧ w.cell? ⟨q, 4, none⟩ = some (.int .i64 rr) ∧ ∀ j, w.frozen? ⟨q, j, none⟩ = false := by
  unfold Rq at h
  simp [World.cell?, World.frozen?, h]
theorem Rq.set1 {w : World} {q : Nat} {op id : Int} {c : ByteArray} {k rr : Int} (h : Rq w q op id c k rr) (x : Int) : Rq (w.setCell ⟨q, 1, none⟩ (.int .i64 x)) q op x c k rr := by
  unfold Rq at *; simp [World.setCell, Array.getElem?_modify, h]
theorem Rq.set2 {w : World} {q : Nat} {op id : Int} {c : ByteArray} {k rr : Int} (h : Rq w q op id c k rr) (x : ByteArray) : Rq (w.setCell ⟨q, 2, none⟩ (.string x)) q op id x k rr := by
  unfold Rq at *; simp [World.setCell, Array.getElem?_modify, h]
theorem Rq.set3 {w : World} {q : Nat} {op id : Int} {c : ByteArray} {k rr : Int} (h : Rq w q op id c k rr) (x : Int) : Rq (w.setCell ⟨q, 3, none⟩ (.int .i64 x)) q op id c x rr := by
  unfold Rq at *; simp [World.setCell, Array.getElem?_modify, h]
theorem Rq.set4 {w : World} {q : Nat} {op id : Int} {c : ByteArray} {k rr : Int} (h : Rq w q op id c k rr) (x : Int) : Rq (w.setCell ⟨q, 4, none⟩ (.int .i64 x)) q op id c k x := by
  unfold Rq at *; simp [World.setCell, Array.getElem?_modify, h]
theorem Rq.lt {w : World} {q : Nat} {op id : Int} {c : ByteArray} {k rr : Int} (h : Rq w q op id c k rr) : q < w.heap.size := cell_lt' (h.cells.1)
theorem Rq.of {w w' : World} {q : Nat} {op id : Int} {c : ByteArray} {k rr : Int} (h : Rq w q op id c k rr) (e : w'.heap[q]? = w.heap[q]?) : Rq w' q op id c k rr := e.trans h
theorem Rd.set {w : World} {T : TypeId} {r : Nat} {b : ByteArray} {s : St} (h : Rd w T r b s) {q : Nat} (hq : q ≠ r) (j : Nat) (v : Value) : Rd (w.setCell ⟨q, j, none⟩ v) T r b s := h.of (Below.heap_setCell _ _ _ _ (fun e => hq e.symm))
theorem grown_heap {w w' : World} {r q : Nat} (h : w.grownBy w' (some r)) (hq : q < w.heap.size) (hne : q ≠ r) : w'.heap[q]? = w.heap[q]? := h.block q hq (fun e => hne (Option.some.inj e))

set_option maxRecDepth 100000 in
theorem toInt_calls (r : Nat) (b : ByteArray) (hb : b.size ≤ 4611686018427387904) (s : St) (q j : Nat) (old : Int) (w : World) (h : Rd w 58 r b s) (hq : q ≠ r) (hc : w.cell? ⟨q, j, none⟩ = some (.int .i64 old)) (hf : w.frozen? ⟨q, j, none⟩ = false) :
    Calls Try.prog 57 #[.pointer (some ⟨q, j, none⟩), .func (.func 58) #[.pointer (some ⟨r, 0, none⟩)] #[]] w fun x w' => x = .returned (.tuple #[]) ∧ ∃ w1, w' = w1.setCell ⟨q, j, none⟩ (.int .i64 (pNum b 9223372036854775807 13 s).2) ∧ Rd w1 58 r b (pNum b 9223372036854775807 13 s).1 ∧ w.grownBy w1 (some r) := by
  have C := Lib.hid (number_calls r b hb s w h)
  have hlt := cell_lt' hc
  generalize pNum b 9223372036854775807 13 s = p at C ⊢
  go_enter Try.func57, Try.ntmps57
  go_wp2_with fail
  refine C.out.mono ?_
  rintro x w1 ⟨rfl, h1, h2⟩
  have c1 := (h2.cell_far ⟨q, j, none⟩ hlt (fun e => hq (Option.some.inj e))).trans hc
  have f1 := (h2.frozen_far ⟨q, j, none⟩ hlt (fun e => hq (Option.some.inj e))).trans hf
  have H1 := Lib.hid h1
  have H2 := Lib.hid h2
  clear hc hf h1 h2
  go_wp2
  go_end0
  exact ⟨rfl, w1, rfl, H1.out, H2.out⟩
set_option maxRecDepth 100000 in
theorem toText_calls (r : Nat) (b : ByteArray) (hb : b.size ≤ 4611686018427387904) (s : St) (q j : Nat) (old : ByteArray) (w : World) (h : Rd w 58 r b s) (hq : q ≠ r) (hc : w.cell? ⟨q, j, none⟩ = some (.string old)) (hf : w.frozen? ⟨q, j, none⟩ = false) :
    Calls Try.prog 59 #[.pointer (some ⟨q, j, none⟩), .func (.func 60) #[.pointer (some ⟨r, 0, none⟩)] #[]] w fun x w' => x = .returned (.tuple #[]) ∧ ∃ w1, w' = w1.setCell ⟨q, j, none⟩ (.string (pText b s).2) ∧ Rd w1 58 r b (pText b s).1 ∧ w.grownBy w1 (some r) := by
  have C := Lib.hid (text_calls r b hb s w h)
  have hlt := cell_lt' hc
  generalize pText b s = p at C ⊢
  go_enter Try.func59, Try.ntmps59
  go_wp2_with fail
  refine C.out.mono ?_
  rintro x w1 ⟨rfl, h1, h2⟩
  have c1 := (h2.cell_far ⟨q, j, none⟩ hlt (fun e => hq (Option.some.inj e))).trans hc
  have f1 := (h2.frozen_far ⟨q, j, none⟩ hlt (fun e => hq (Option.some.inj e))).trans hf
  have H1 := Lib.hid h1
  have H2 := Lib.hid h2
  clear hc hf h1 h2
  go_wp2
  go_end0
  exact ⟨rfl, w1, rfl, H1.out, H2.out⟩

/-- What an operation reads of a request. -/
def aNum (b : ByteArray) (s : St) : St × Int := pNum b 9223372036854775807 13 s
def ask1 (b : ByteArray) (s : St) : St × Int × ByteArray × Int × Int := ((pText b (aNum b s).1).1, (aNum b s).2, (pText b (aNum b s).1).2, 0, 0)
def ask2 (b : ByteArray) (s : St) : St × Int × ByteArray × Int × Int := ((aNum b s).1, (aNum b s).2, ⟨#[]⟩, 0, 0)
def ask4 (b : ByteArray) (s : St) : St × Int × ByteArray × Int × Int := ((aNum b (pText b s).1).1, 0, (pText b s).2, (aNum b (pText b s).1).2, 0)
def ask5 (b : ByteArray) (s : St) : St × Int × ByteArray × Int × Int := ((aNum b (pText b s).1).1, 0, (pText b s).2, 0, (aNum b (pText b s).1).2)
def ask6 (b : ByteArray) (s : St) : St × Int × ByteArray × Int × Int := (s, 0, ⟨#[]⟩, 0, 0)
/-- A function that reads so. -/
def Asks (f : Nat) (b : ByteArray) (A : St → St × Int × ByteArray × Int × Int) : Prop :=
  ∀ (B r q : Nat) (op : Int) (s : St) (w : World), B ≤ r → B ≤ q → q ≠ r → Rd w 58 r b s → Rq w q op 0 ⟨#[]⟩ 0 0 →
    Calls Try.prog f #[.pointer (some ⟨r, 0, none⟩), .pointer (some ⟨q, 0, none⟩)] w fun x w' => x = .returned (.tuple #[]) ∧ Rd w' 58 r b (A s).1 ∧ Rq w' q op (A s).2.1 (A s).2.2.1 (A s).2.2.2.1 (A s).2.2.2.2 ∧ Below B w w'
theorem asks6 (b : ByteArray) : Asks 49 b (ask6 b) := by
  intro B r q op s w hr hq hne h1 h2
  have H1 := Lib.hid h1
  have H2 := Lib.hid h2
  clear h1 h2
  go_enter Try.func49, Try.ntmps49
  go_wp2
  go_end0
  exact ⟨rfl, H1.out, H2.out, Below.refl _ _⟩
set_option maxRecDepth 100000 in
theorem asks2 (b : ByteArray) (hb : b.size ≤ 4611686018427387904) : Asks 63 b (ask2 b) := by
  intro B r q op s w hr hq hne h1 h2
  obtain ⟨c0, c1, c2, c3, c4, cf⟩ := h2.cells
  have C := Lib.hid (toInt_calls r b hb s q 1 0 w h1 hne c1 (cf 1))
  have H2 := Lib.hid h2
  have hqr : Hid (r < w.heap.size ∧ q < w.heap.size) := Lib.hid ⟨h1.lt, h2.lt⟩
  unfold ask2 aNum
  generalize pNum b 9223372036854775807 13 s = p at C ⊢
  clear h1 h2 cf
  go_enter Try.func63, Try.ntmps63
  go_wp2_with fail
  refine C.out.mono ?_
  rintro x w' ⟨rfl, w1, rfl, k1, k2⟩
  have hRd := Lib.hid (k1.set hne 1 (.int .i64 p.2))
  have hRq := Lib.hid ((H2.out.of (grown_heap k2 hqr.out.2 hne)).set1 p.2)
  have hBl := Lib.hid ((grown_below (Below.refl B w) k2 (by have := hqr.out.1; omega) (fun k e => by cases e; exact hr)).setCell (p := ⟨q, 1, none⟩) hq (.int .i64 p.2))
  clear k1 k2
  go_wp2
  go_end0
  exact ⟨rfl, hRd.out, hRq.out, hBl.out⟩
set_option maxRecDepth 100000 in
theorem asks1 (b : ByteArray) (hb : b.size ≤ 4611686018427387904) : Asks 56 b (ask1 b) := by
  intro B r q op s w hr hq hne h1 h2
  obtain ⟨c0, c1, c2, c3, c4, cf⟩ := h2.cells
  have C := Lib.hid (toInt_calls r b hb s q 1 0 w h1 hne c1 (cf 1))
  have D := Lib.hid (fun W k o kf => toText_calls r b hb (aNum b s).1 q 2 ⟨#[]⟩ W k hne o kf)
  have H2 := Lib.hid h2
  have hqr : Hid (r < w.heap.size ∧ q < w.heap.size) := Lib.hid ⟨h1.lt, h2.lt⟩
  unfold ask1
  unfold aNum at D ⊢
  generalize pNum b 9223372036854775807 13 s = p at C D ⊢
  generalize pText b p.1 = p2 at D ⊢
  clear h1 h2 cf c0 c1 c2 c3 c4
  go_enter Try.func56, Try.ntmps56
  go_wp2_with fail
  refine C.out.mono ?_
  rintro x w' ⟨rfl, w1, rfl, k1, k2⟩
  have hRd := Lib.hid (k1.set hne 1 (.int .i64 p.2))
  have hRq := Lib.hid ((H2.out.of (grown_heap k2 hqr.out.2 hne)).set1 p.2)
  have hBl := Lib.hid ((grown_below (Below.refl B w) k2 (by have := hqr.out.1; omega) (fun k e => by cases e; exact hr)).setCell (p := ⟨q, 1, none⟩) hq (.int .i64 p.2))
  generalize w1.setCell ⟨q, 1, none⟩ (.int .i64 p.2) = w2 at hRd hRq hBl ⊢
  obtain ⟨d0, d1, d2, d3, d4, df⟩ := hRq.out.cells
  have e2 := d2
  clear k1 k2 d0 d1 d2 d3 d4
  go_wp2_with fail
  refine (D.out _ hRd.out e2 (df 2)).mono ?_
  rintro x w' ⟨rfl, w3, rfl, k1, k2⟩
  have gRd := Lib.hid (k1.set hne 2 (.string p2.2))
  have gRq := Lib.hid ((hRq.out.of (grown_heap k2 hRq.out.lt hne)).set2 p2.2)
  have gBl := Lib.hid ((grown_below hBl.out k2 (by have := hRd.out.lt; omega) (fun k e => by cases e; exact hr)).setCell (p := ⟨q, 2, none⟩) hq (.string p2.2))
  clear k1 k2 e2 df
  go_wp2
  go_end0
  exact ⟨rfl, gRd.out, gRq.out, gBl.out⟩
set_option maxRecDepth 100000 in
theorem asks4 (b : ByteArray) (hb : b.size ≤ 4611686018427387904) : Asks 72 b (ask4 b) := by
  intro B r q op s w hr hq hne h1 h2
  obtain ⟨c0, c1, c2, c3, c4, cf⟩ := h2.cells
  have C := Lib.hid (toText_calls r b hb s q 2 ⟨#[]⟩ w h1 hne c2 (cf 2))
  have D := Lib.hid (fun W k o kf => toInt_calls r b hb (pText b s).1 q 3 0 W k hne o kf)
  have H2 := Lib.hid h2
  have hqr : Hid (r < w.heap.size ∧ q < w.heap.size) := Lib.hid ⟨h1.lt, h2.lt⟩
  unfold ask4
  unfold aNum
  generalize pText b s = p at C D ⊢
  generalize pNum b 9223372036854775807 13 p.1 = p2 at D ⊢
  clear h1 h2 cf c0 c1 c2 c3 c4
  go_enter Try.func72, Try.ntmps72
  go_wp2_with fail
  refine C.out.mono ?_
  rintro x w' ⟨rfl, w1, rfl, k1, k2⟩
  have hRd := Lib.hid (k1.set hne 2 (.string p.2))
  have hRq := Lib.hid ((H2.out.of (grown_heap k2 hqr.out.2 hne)).set2 p.2)
  have hBl := Lib.hid ((grown_below (Below.refl B w) k2 (by have := hqr.out.1; omega) (fun k e => by cases e; exact hr)).setCell (p := ⟨q, 2, none⟩) hq (.string p.2))
  generalize w1.setCell ⟨q, 2, none⟩ (.string p.2) = w2 at hRd hRq hBl ⊢
  obtain ⟨d0, d1, d2, d3, d4, df⟩ := hRq.out.cells
  have e3 := d3
  clear k1 k2 d0 d1 d2 d3 d4
  go_wp2_with fail
  refine (D.out _ hRd.out e3 (df 3)).mono ?_
  rintro x w' ⟨rfl, w3, rfl, k1, k2⟩
  have gRd := Lib.hid (k1.set hne 3 (.int .i64 p2.2))
  have gRq := Lib.hid ((hRq.out.of (grown_heap k2 hRq.out.lt hne)).set3 p2.2)
  have gBl := Lib.hid ((grown_below hBl.out k2 (by have := hRd.out.lt; omega) (fun k e => by cases e; exact hr)).setCell (p := ⟨q, 3, none⟩) hq (.int .i64 p2.2))
  clear k1 k2 e3 df
  go_wp2
  go_end0
  exact ⟨rfl, gRd.out, gRq.out, gBl.out⟩
set_option maxRecDepth 100000 in
theorem asks5 (b : ByteArray) (hb : b.size ≤ 4611686018427387904) : Asks 75 b (ask5 b) := by
  intro B r q op s w hr hq hne h1 h2
  obtain ⟨c0, c1, c2, c3, c4, cf⟩ := h2.cells
  have C := Lib.hid (toText_calls r b hb s q 2 ⟨#[]⟩ w h1 hne c2 (cf 2))
  have D := Lib.hid (fun W k o kf => toInt_calls r b hb (pText b s).1 q 4 0 W k hne o kf)
  have H2 := Lib.hid h2
  have hqr : Hid (r < w.heap.size ∧ q < w.heap.size) := Lib.hid ⟨h1.lt, h2.lt⟩
  unfold ask5
  unfold aNum
  generalize pText b s = p at C D ⊢
  generalize pNum b 9223372036854775807 13 p.1 = p2 at D ⊢
  clear h1 h2 cf c0 c1 c2 c3 c4
  go_enter Try.func75, Try.ntmps75
  go_wp2_with fail
  refine C.out.mono ?_
  rintro x w' ⟨rfl, w1, rfl, k1, k2⟩
  have hRd := Lib.hid (k1.set hne 2 (.string p.2))
  have hRq := Lib.hid ((H2.out.of (grown_heap k2 hqr.out.2 hne)).set2 p.2)
  have hBl := Lib.hid ((grown_below (Below.refl B w) k2 (by have := hqr.out.1; omega) (fun k e => by cases e; exact hr)).setCell (p := ⟨q, 2, none⟩) hq (.string p.2))
  generalize w1.setCell ⟨q, 2, none⟩ (.string p.2) = w2 at hRd hRq hBl ⊢
  obtain ⟨d0, d1, d2, d3, d4, df⟩ := hRq.out.cells
  have e4 := d4
  clear k1 k2 d0 d1 d2 d3 d4
  go_wp2_with fail
  refine (D.out _ hRd.out e4 (df 4)).mono ?_
  rintro x w' ⟨rfl, w3, rfl, k1, k2⟩
  have gRd := Lib.hid (k1.set hne 4 (.int .i64 p2.2))
  have gRq := Lib.hid ((hRq.out.of (grown_heap k2 hRq.out.lt hne)).set4 p2.2)
  have gBl := Lib.hid ((grown_below hBl.out k2 (by have := hRd.out.lt; omega) (fun k e => by cases e; exact hr)).setCell (p := ⟨q, 4, none⟩) hq (.int .i64 p2.2))
  clear k1 k2 e4 df
  go_wp2
  go_end0
  exact ⟨rfl, gRd.out, gRq.out, gBl.out⟩
end Go.Proofs.Ytabhjkaheghbhaa

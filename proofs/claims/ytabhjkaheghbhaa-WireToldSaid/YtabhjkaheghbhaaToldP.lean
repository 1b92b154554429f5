/-
  WALKS: parts of the program's Told. (Printed by toldgen.py.)
-/
import Derived.Test.YtabhjkaheghbhaaHitR
import Derived.Test.YtabhjkaheghbhaaTellP
import Derived.Laws.ResultCell
namespace Go.Proofs.Ytabhjkaheghbhaa
open Go.RowKit
set_option linter.unusedVariables false

/-- What an operation reads of a reply. -/
def toldR (kd : Nat) (b : ByteArray) (s : St) : St × Int × ByteArray × List Hv :=
  if kd = 3 then ((pText b s).1, 0, (pText b s).2, []) else if kd = 4 then ((pHits b s).1, 0, ⟨#[]⟩, (pHits b s).2) else if kd = 6 then ((aNum b s).1, (aNum b s).2, ⟨#[]⟩, []) else (s, 0, ⟨#[]⟩, [])
theorem toldR3 (b : ByteArray) (s : St) : toldR 3 b s = ((pText b s).1, 0, (pText b s).2, []) := rfl
theorem toldR4 (b : ByteArray) (s : St) : toldR 4 b s = ((pHits b s).1, 0, ⟨#[]⟩, (pHits b s).2) := rfl
theorem toldR6 (b : ByteArray) (s : St) : toldR 6 b s = ((aNum b s).1, (aNum b s).2, ⟨#[]⟩, []) := rfl
theorem toldR1 (b : ByteArray) (s : St) : toldR 1 b s = (s, 0, ⟨#[]⟩, []) := rfl
theorem Rp.set {w : World} {q : Nat} {code n : Int} {t : ByteArray} {sl : Value} (h : Rp w q code n t sl) : (∀ x, Rp (w.setCell ⟨q, 1, none⟩ (.int .i64 x)) q code x t sl) ∧ (∀ x, Rp (w.setCell ⟨q, 2, none⟩ (.string x)) q code n x sl) ∧ (∀ x, Rp (w.setCell ⟨q, 3, none⟩ x) q code n t x) := by
  unfold Rp at *
  refine ⟨fun x => ?_, fun x => ?_, fun x => ?_⟩ <;> simp [World.setCell, Array.getElem?_modify, h]
theorem own_nil (w : World) (B : Nat) (T : TypeId) : w.ownsRow B T 3 (.slice none 0 0) ([] : List Hv).length (encH []) := ⟨rfl, .inl ⟨rfl, rfl⟩⟩
/-- A function that reads so. -/
def Tolds (f : Nat) (b : ByteArray) (kd : Nat) : Prop :=
  ∀ (B r q : Nat) (code : Int) (s : St) (w : World), B ≤ r → B ≤ q → q ≠ r → Rd w 58 r b s → Rp w q code 0 ⟨#[]⟩ (.slice none 0 0) →
    Calls Try.prog f #[.pointer (some ⟨r, 0, none⟩), .pointer (some ⟨q, 0, none⟩)] w fun x w' => x = .returned (.tuple #[]) ∧ ∃ v, Rd w' 58 r b (toldR kd b s).1 ∧ Rp w' q code (toldR kd b s).2.1 (toldR kd b s).2.2.1 v ∧ w'.ownsRow B 35 3 v (toldR kd b s).2.2.2.length (encH (toldR kd b s).2.2.2) ∧ v.ownBlock ≠ some q ∧ v.ownBlock ≠ some r ∧ Below B w w'
theorem tolds1 (b : ByteArray) : Tolds 52 b 1 := by
  intro B r q code s w hr hq hne h1 h2
  rw [toldR1]
  have H1 := Lib.hid h1
  have H2 := Lib.hid h2
  clear h1 h2
  go_enter Try.func52, Try.ntmps52
  go_wp2
  go_end0
  exact ⟨rfl, _, H1.out, H2.out, own_nil _ _ _, by simp [Value.ownBlock], by simp [Value.ownBlock], Below.refl _ _⟩
set_option maxRecDepth 100000 in
theorem tolds6 (b : ByteArray) (hb : b.size ≤ 4611686018427387904) : Tolds 78 b 6 := by
  intro B r q code s w hr hq hne h1 h2
  obtain ⟨c0, c1, c2, c3, cf⟩ := h2.cells
  have C := Lib.hid (toInt_calls r b hb s q 1 0 w h1 hne c1 (cf 1))
  have H2 := Lib.hid h2
  have hqr : Hid (r < w.heap.size ∧ q < w.heap.size) := Lib.hid ⟨h1.lt, h2.lt⟩
  rw [toldR6]
  unfold aNum
  generalize pNum b 9223372036854775807 13 s = p at C ⊢
  clear h1 h2 cf
  go_enter Try.func78, Try.ntmps78
  go_wp2_with fail
  refine C.out.mono ?_
  rintro x w' ⟨rfl, w1, rfl, k1, k2⟩
  have hRd := Lib.hid (k1.set hne 1 (.int .i64 p.2))
  have hRq := Lib.hid ((H2.out.of (grown_heap k2 hqr.out.2 hne)).set.1 p.2)
  have hBl := Lib.hid ((grown_below (Below.refl B w) k2 (by have := hqr.out.1; omega) (fun k e => by cases e; exact hr)).setCell (p := ⟨q, 1, none⟩) hq (.int .i64 p.2))
  clear k1 k2
  go_wp2
  go_end0
  exact ⟨rfl, _, hRd.out, hRq.out, own_nil _ _ _, by simp [Value.ownBlock], by simp [Value.ownBlock], hBl.out⟩
set_option maxRecDepth 100000 in
theorem tolds3 (b : ByteArray) (hb : b.size ≤ 4611686018427387904) : Tolds 66 b 3 := by
  intro B r q code s w hr hq hne h1 h2
  obtain ⟨c0, c1, c2, c3, cf⟩ := h2.cells
  have C := Lib.hid (toText_calls r b hb s q 2 ⟨#[]⟩ w h1 hne c2 (cf 2))
  have H2 := Lib.hid h2
  have hqr : Hid (r < w.heap.size ∧ q < w.heap.size) := Lib.hid ⟨h1.lt, h2.lt⟩
  rw [toldR3]
  generalize pText b s = p at C ⊢
  clear h1 h2 cf
  go_enter Try.func66, Try.ntmps66
  go_wp2_with fail
  refine C.out.mono ?_
  rintro x w' ⟨rfl, w1, rfl, k1, k2⟩
  have hRd := Lib.hid (k1.set hne 2 (.string p.2))
  have hRq := Lib.hid ((H2.out.of (grown_heap k2 hqr.out.2 hne)).set.2.1 p.2)
  have hBl := Lib.hid ((grown_below (Below.refl B w) k2 (by have := hqr.out.1; omega) (fun k e => by cases e; exact hr)).setCell (p := ⟨q, 2, none⟩) hq (.string p.2))
  clear k1 k2
  go_wp2
  go_end0
  exact ⟨rfl, _, hRd.out, hRq.out, own_nil _ _ _, by simp [Value.ownBlock], by simp [Value.ownBlock], hBl.out⟩
theorem own_set3 {w : World} {base : Nat} {e : TypeId} {v : Value} {n : Nat} {xs : List Value} (h : w.ownsRow base e 3 v n xs) {q j : Nat} (hq : v.ownBlock ≠ some q) (u : Value) : (w.setCell ⟨q, j, none⟩ u).ownsRow base e 3 v n xs := by
  refine ⟨h.1, ?_⟩
  rcases h.2 with hn | ⟨g, c, cur, rfl, hbg, hg, rest⟩
  · exact .inl hn
  · exact .inr ⟨g, c, cur, rfl, hbg, (Below.heap_setCell _ _ _ _ (fun e => hq (by simp [Value.ownBlock, e]))).trans hg, rest⟩
set_option maxRecDepth 100000 in
theorem tolds4 (b : ByteArray) (hb : b.size ≤ 4611686018427387904) : Tolds 69 b 4 := by
  intro B r q code s w hr hq hne h1 h2
  have C := Lib.hid (hits_calls r b hb s w h1)
  have H2 := Lib.hid h2
  have hqr : Hid (r < w.heap.size ∧ q < w.heap.size) := Lib.hid ⟨h1.lt, h2.lt⟩
  rw [toldR4]
  generalize pHits b s = p at C ⊢
  clear h1 h2
  go_enter Try.func69, Try.ntmps69
  go_wp2_with fail
  refine C.out.mono ?_
  rintro x w1 ⟨v, rfl, ho, k1, k2⟩
  have hvr : v.ownBlock ≠ some r := fun e => by have := (ho.lt _ e).1; have := hqr.out.1; omega
  have hvq : v.ownBlock ≠ some q := fun e => by have := (ho.lt _ e).1; have := hqr.out.2; omega
  have hR := H2.out.of (grown_heap k2 hqr.out.2 hne)
  obtain ⟨c0, c1, c2, c3, cf⟩ := hR.cells
  have f3 := cf 3
  have hRd := Lib.hid (k1.set hne 3 v)
  have hRq := Lib.hid (hR.set.2.2 v)
  have hOw := Lib.hid (own_set3 (own_le ho (show B ≤ w.heap.size by have := hqr.out.1; omega)) (j := 3) hvq v)
  have hBl := Lib.hid ((grown_below (Below.refl B w) k2 (by have := hqr.out.1; omega) (fun k e => by cases e; exact hr)).setCell (p := ⟨q, 3, none⟩) hq v)
  clear k1 k2 cf c0 c1 c2 hR
  obtain ⟨p', cap, rfl, _⟩ := own_rd ho
  clear ho
  go_wp2
  go_end0
  exact ⟨rfl, _, hRd.out, hRq.out, hOw.out, hvq, hvr, hBl.out⟩
theorem results_tct {fn : Func} {t p u : Tmp} {ty : TypeId} (h : fn.results = #[.tmp t, .cell p ty, .tmp u]) (tmps : Array Value) (P : Program) (w : World) :
    (results fn tmps).run P w = ((asAddr (tmps.getD p undef)).run P w).andThen fun a w₁ => ((loadVar ty a).run P w₁).andThen fun v w₂ => .ok (.tuple #[tmps.getD t undef, v, tmps.getD u undef]) w₂ := by
  simp only [results, h]
  simp [Sem.run_bind, Result.andThen]
end Go.Proofs.Ytabhjkaheghbhaa

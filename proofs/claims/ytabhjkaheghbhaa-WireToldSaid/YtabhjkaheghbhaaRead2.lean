/-
  WALKS: the program's reader: numbers, texts, the two bytes ahead, the end.
-/
import Derived.Test.YtabhjkaheghbhaaRead
namespace Go.Proofs.Ytabhjkaheghbhaa
open Go.RowKit
set_option linter.unusedVariables false

theorem grown_alloc (w : World) (o : Obj) (row : Option Nat) : w.grownBy (w.alloc o) row := ⟨rfl, rfl, rfl, by simp, fun k hk _ => Below.heap_alloc _ _ _ hk⟩
theorem pNum_rf (b : ByteArray) (most : Nat) (E : Int) (hE : E ≠ 0) (a v : Nat) (nx f : Int) (hv : varR b.data.toList a = (v, nx, f)) (B1 B2 B3 : Bool) (h1 : B1 = true ↔ f ≠ 0) (h2 : B2 = true ↔ 9223372036854775807 < v) (h3 : B3 = true ↔ most < v) :
    (rf B3 E (rf B2 13 (rf B1 f 0)) ≠ 0 → pNum b most E (Except.ok a) = (Except.error (rf B3 E (rf B2 13 (rf B1 f 0))), 0)) ∧ (rf B3 E (rf B2 13 (rf B1 f 0)) = 0 → pNum b most E (Except.ok a) = (Except.ok nx.toNat, (v : Int)) ∧ v ≤ 9223372036854775807 ∧ ∃ n : Nat, nx = n ∧ n ≤ b.size) := by
  have hn := varR_next b a
  simp only [pNum, hv] at hn ⊢
  by_cases hf : f = 0
  · have e1 : rf B1 f 0 = 0 := by simp [rf, hf]
    rw [e1]
    by_cases hl : 9223372036854775807 < v
    · have e2 : rf B2 13 0 = 13 := by simp [rf, h2.2 hl]
      rw [e2]
      have e3 : rf B3 E 13 = 13 := by simp [rf]
      rw [e3]
      exact ⟨fun _ => by simp [hf, hl], fun h => by simp at h⟩
    · have e2 : rf B2 13 0 = 0 := by
        have : ¬ B2 = true := fun h => hl (h2.1 h)
        simp [rf, this]
      rw [e2]
      by_cases hm : most < v
      · have e3 : rf B3 E 0 = E := by simp [rf, h3.2 hm]
        rw [e3]
        exact ⟨fun _ => by simp [hf, hl, hm], fun h => absurd h hE⟩
      · have e3 : rf B3 E 0 = 0 := by
          have : ¬ B3 = true := fun h => hm (h3.1 h)
          simp [rf, this]
        rw [e3]
        refine ⟨fun h => absurd rfl h, fun _ => ⟨by simp [hf, hl, hm], by omega, ?_⟩⟩
        obtain ⟨n, e, _, h5⟩ := hn hf
        exact ⟨n, e, h5⟩
  · have e1 : rf B1 f 0 = f := by simp [rf, h1.2 hf]
    rw [e1]
    have e2 : rf B2 13 f = f := by simp [rf, hf]
    rw [e2]
    have e3 : rf B3 E f = f := by simp [rf, hf]
    rw [e3]
    exact ⟨fun _ => by simp [hf], fun h => absurd h hf⟩

set_option maxRecDepth 100000 in
set_option maxHeartbeats 1000000 in
theorem upTo_calls (most : Nat) (hm : most ≤ 9223372036854775807) (E : Int) (hE : E ≠ 0) (r : Nat) (b : ByteArray) (hb : b.size ≤ 4611686018427387904) (s : St) (w : World) (h : Rd w 58 r b s) :
    Calls Try.prog 41 #[.pointer (some ⟨r, 0, none⟩), .int .i64 most, .int .i64 E] w fun x w' => x = .returned (.int .i64 (pNum b most E s).2) ∧ Rd w' 58 r b (pNum b most E s).1 ∧ w.grownBy w' (some r) := by
  cases s with
  | error e =>
    obtain ⟨he, a, h⟩ := h
    obtain ⟨c0, c1, c2, f1, f2⟩ := h.cells
    have H := Lib.hid h
    have he2 : (e == 0) = false := by rw [beq_eq_false_iff_ne]; exact he
    have HE := Lib.hid he
    clear h he
    simp only [pNum]
    go_enter Try.func41, Try.ntmps41
    go_wp2
    go_ret
    exact ⟨rfl, ⟨HE.out, a, H.out⟩, grown_refl _ _⟩
  | ok a =>
    obtain ⟨ha, h⟩ := h
    obtain ⟨v, nx, f, hv⟩ : ∃ v nx f, varR b.data.toList a = (v, nx, f) := ⟨_, _, _, rfl⟩
    have hv64 : v < 18446744073709551616 := by have := varR_lt b.data.toList a; rw [hv] at this; exact this
    have CV := Var_calls b hb a
    have HP := Lib.hid (pNum_rf b most E hE a v nx f hv)
    simp only [hv] at CV
    have HCV := Lib.hid CV
    have hR := fun (e : Int) (is : Bool) (E : Int) W (h : Rs W 58 r b a e) => refuse_calls r b a e is E W h
    obtain ⟨c0, c1, c2, f1, f2⟩ := h.cells
    have H := Lib.hid h
    have HR := Lib.hid hR
    obtain ⟨p1, hp1⟩ : ∃ x, (pNum b most E (.ok a)).1 = x := ⟨_, rfl⟩
    obtain ⟨p2, hp2⟩ : ∃ x, (pNum b most E (.ok a)).2 = x := ⟨_, rfl⟩
    rw [hp1, hp2]
    have HP1 := Lib.hid hp1
    have HP2 := Lib.hid hp2
    have hwm : IntKind.u64.wrap (most : Int) = (most : Int) := by rw [IntKind.wrap_u64]; omega
    clear h hR CV hp1 hp2 hv
    go_enter Try.func41, Try.ntmps41
    go_wp2
    go_quiet ((go_at_call 89; exact quiet_left (HCV.out _)))
    have HS := Lib.hid (H.out.drew nq)
    have HG := Lib.hid (grown_drewN (grown_refl w (some r)) nq)
    clear c0 c1 c2 f1 f2 H
    generalize w.drewN nq = w1 at HS HG
    go_wp2_with fail
    refine (HR.out _ _ _ _ HS.out).mono ?_
    rintro x w2 ⟨rfl, hs2, hg2⟩
    have HS2 := Lib.hid hs2
    clear hs2
    go_wp2_with fail
    refine (HR.out _ _ _ _ HS2.out).mono ?_
    rintro x w3 ⟨rfl, hs3, hg3⟩
    have HS3 := Lib.hid hs3
    clear hs3
    go_wp2_with fail
    refine (HR.out _ _ _ _ HS3.out).mono ?_
    rintro x w4 ⟨rfl, hs4, hg4⟩
    have HG4 := Lib.hid (grown_trans (grown_trans (grown_trans HG.out hg2) hg3) hg4)
    obtain ⟨y, hy⟩ : ∃ y, rf (decide (most < v)) E (rf (decide (9223372036854775807 < (v : Int))) 13 (rf (f != 0) f 0)) = y := ⟨_, rfl⟩
    have hq := HP.out (f != 0) (decide (9223372036854775807 < (v : Int))) (decide (most < v)) (by simp) (by simp; omega) (by simp)
    rw [hy] at hs4 hq
    have HS4 := Lib.hid hs4
    obtain ⟨c0, c1, c2, f1, f2⟩ := hs4.cells
    by_cases h0 : y = 0
    · subst h0
      obtain ⟨e1, e2, n, rfl, e3⟩ := hq.2 rfl
      rw [e1] at HP1 HP2
      have q1 := HP1.out
      have q2 := HP2.out
      simp only [Int.toNat_natCast] at q1 q2
      subst q1 q2
      have HS5 := Lib.hid (HS4.out.set1 (n : Int))
      have HG5 := Lib.hid (grown_set HG4.out 1 (.int .i64 (n : Int)))
      have hwv : IntKind.i64.wrap (v : Int) = (v : Int) := by rw [IntKind.wrap_i64]; omega
      clear hs4 hq hg2 hg3 hg4 e1 hy
      go_wp2
      go_ret
      exact ⟨rfl, ⟨e3, HS5.out⟩, HG5.out⟩
    · have e1 := hq.1 h0
      rw [e1] at HP1 HP2
      have q1 := HP1.out
      have q2 := HP2.out
      simp only at q1 q2
      subst q1 q2
      have hy0 : (y == 0) = false := by rw [beq_eq_false_iff_ne]; exact h0
      have HY := Lib.hid h0
      clear hs4 hq hg2 hg3 hg4 e1 hy h0
      go_wp2
      go_ret
      exact ⟨rfl, ⟨HY.out, _, HS4.out⟩, HG4.out⟩

theorem pNum_le (b : ByteArray) (most : Nat) (E : Int) (s : St) : 0 ≤ (pNum b most E s).2 ∧ (pNum b most E s).2 ≤ most := by
  unfold pNum
  split
  · simp
  · (repeat' split) <;> simp <;> omega
theorem pNum_ok {b : ByteArray} {most : Nat} {E : Int} {s : St} {a : Nat} {n : Int} (h : pNum b most E s = (Except.ok a, n)) : a ≤ b.size := by
  unfold pNum at h
  split at h
  · cases h
  · next a0 =>
    split at h
    · cases h
    · next hf =>
      split at h
      · cases h
      · split at h
        · cases h
        · obtain ⟨m, e, _, h5⟩ := varR_next b a0 (by simpa using hf)
          cases h
          rw [e]
          simpa using h5
set_option maxRecDepth 100000 in
theorem number_calls (r : Nat) (b : ByteArray) (hb : b.size ≤ 4611686018427387904) (s : St) (w : World) (h : Rd w 58 r b s) :
    Calls Try.prog 58 #[.pointer (some ⟨r, 0, none⟩)] w fun x w' => x = .returned (.int .i64 (pNum b 9223372036854775807 13 s).2) ∧ Rd w' 58 r b (pNum b 9223372036854775807 13 s).1 ∧ w.grownBy w' (some r) := by
  have C := Lib.hid (upTo_calls 9223372036854775807 (by decide) 13 (by decide) r b hb s w h)
  generalize pNum b 9223372036854775807 13 s = q at C ⊢
  go_enter Try.func58, Try.ntmps58
  go_wp2_with fail
  refine C.out.mono ?_
  rintro x w1 ⟨rfl, h1, h2⟩
  go_wp2
  go_ret
  exact ⟨rfl, h1, h2⟩

set_option maxRecDepth 100000 in
set_option maxHeartbeats 1000000 in
theorem text_calls (r : Nat) (b : ByteArray) (hb : b.size ≤ 4611686018427387904) (s : St) (w : World) (h : Rd w 58 r b s) :
    Calls Try.prog 60 #[.pointer (some ⟨r, 0, none⟩)] w fun x w' => x = .returned (.string (pText b s).2) ∧ Rd w' 58 r b (pText b s).1 ∧ w.grownBy w' (some r) := by
  have C := Lib.hid (upTo_calls 65536 (by decide) 36 (by decide) r b hb s w h)
  have hR := fun (a e : Int) (is : Bool) (E : Int) W (h : Rs W 58 r b a e) => refuse_calls r b a e is E W h
  have HR := Lib.hid hR
  obtain ⟨s1, n, hn⟩ : ∃ s1 n, pNum b 65536 36 s = (s1, n) := ⟨_, _, rfl⟩
  rw [hn] at C
  have hok := fun a (e : s1 = Except.ok a) => pNum_ok (hn.trans (by rw [e]))
  have hn0 : 0 ≤ n ∧ n ≤ 65536 := by have := pNum_le b 65536 36 s; rw [hn] at this; exact this
  unfold pText
  rw [hn]
  clear hn hR h
  cases s1 with
  | error e =>
    simp only
    go_enter Try.func60, Try.ntmps60
    go_wp2_with fail
    refine C.out.mono ?_
    rintro x w1 ⟨rfl, ⟨he, a, hs⟩, hg1⟩
    have hrf : ∀ is, rf is 31 e = e := fun is => by simp [rf, he]
    obtain ⟨c0, c1, c2, f1, f2⟩ := hs.cells
    have HS := Lib.hid hs
    have he2 : (e == 0) = false := by rw [beq_eq_false_iff_ne]; exact he
    have HE := Lib.hid he
    have HRF := Lib.hid hrf
    clear hs he hrf
    go_wp2
    go_region_held3 (fun W => W.cell? ⟨r, 0, none⟩ = some (.string b) ∧ W.cell? ⟨r, 1, none⟩ = some (.int .i64 a))
      (first | exact ⟨d0, d1⟩ | exact ⟨c0, c1⟩)
      (first | (go_at_call 80; refine (HR.out _ _ _ _ _ (HS.out.drew 1)).mono ?_; rintro x w2 ⟨rfl, hs2, hg2⟩; rw [HRF.out] at hs2; obtain ⟨d0, d1, d2, _, _⟩ := hs2.cells))
    obtain ⟨d0, d1, d2, _, _⟩ := hs2.cells
    have HS2 := Lib.hid hs2
    have HG2 := Lib.hid (grown_trans (grown_drew hg1) hg2)
    clear hs2 hg2 hg1 c0 c1 c2 f1 f2
    go_wp2
    go_ret
    exact ⟨rfl, ⟨HE.out, a, HS2.out⟩, HG2.out⟩
  | ok a =>
    simp only
    by_cases hsh : (b.size : Int) - a < n
    · rw [if_pos hsh]
      have hd : decide ((b.size : Int) - (a : Int) < n) = true := by simpa using hsh
      have hrf : rf true 31 0 = 31 := by simp [rf]
      go_enter Try.func60, Try.ntmps60
      go_wp2_with fail
      refine C.out.mono ?_
      rintro x w1 ⟨rfl, ⟨ha, hs⟩, hg1⟩
      have hws : IntKind.i64.wrap ((b.size : Int) - (a : Int)) = (b.size : Int) - (a : Int) := by rw [IntKind.wrap_i64]; omega
      obtain ⟨c0, c1, c2, f1, f2⟩ := hs.cells
      have HS := Lib.hid hs
      clear hs
      go_wp2
      go_region_held3 (fun W => W.cell? ⟨r, 0, none⟩ = some (.string b) ∧ W.cell? ⟨r, 1, none⟩ = some (.int .i64 a))
        (first | exact ⟨d0, d1⟩ | exact ⟨c0, c1⟩)
        (first | (go_at_call 80; refine (HR.out _ _ _ _ _ (HS.out.drew 1)).mono ?_; rintro x w2 ⟨rfl, hs2, hg2⟩; rw [hrf] at hs2; obtain ⟨d0, d1, d2, _, _⟩ := hs2.cells))
      obtain ⟨d0, d1, d2, _, _⟩ := hs2.cells
      have HS2 := Lib.hid hs2
      have HG2 := Lib.hid (grown_trans (grown_drew hg1) hg2)
      clear hs2 hg2 hg1 c0 c1 c2 f1 f2
      go_wp2
      go_ret
      exact ⟨rfl, ⟨by decide, a, HS2.out⟩, HG2.out⟩
    · rw [if_neg hsh]
      have hd : decide ((b.size : Int) - (a : Int) < n) = false := by simp; omega
      have hrf : rf false 31 0 = 0 := by simp [rf]
      obtain ⟨m, rfl⟩ : ∃ m : Nat, n = m := ⟨n.toNat, by omega⟩
      have ha := hok a rfl
      have hws : IntKind.i64.wrap ((b.size : Int) - (a : Int)) = (b.size : Int) - (a : Int) := by rw [IntKind.wrap_i64]; omega
      have hwp : IntKind.i64.wrap ((a : Int) + (m : Int)) = ((a + m : Nat) : Int) := by rw [IntKind.wrap_i64]; omega
      have hwm : IntKind.i64.wrap (((a + m : Nat) : Int) - (m : Int)) = (a : Int) := by rw [IntKind.wrap_i64]; omega
      have hsl := fun W => run_slice_string (P := Try.prog) W 9 b .i64 .i64 (a : Int) ((a + m : Nat) : Int) Try.underlying9 (by omega) (by omega) (by omega)
      simp only [Int.toNat_natCast] at hsl ⊢
      obtain ⟨q, hq⟩ : ∃ q, a + m = q := ⟨_, rfl⟩
      rw [hq] at hwp hwm ⊢
      simp only [hq] at hsl
      have hqb : q ≤ b.size := by omega
      clear hok hq hsh
      go_enter Try.func60, Try.ntmps60
      go_wp2_with fail
      refine C.out.mono ?_
      rintro x w1 ⟨rfl, ⟨_, hs⟩, hg1⟩
      obtain ⟨c0, c1, c2, f1, f2⟩ := hs.cells
      have HS := Lib.hid hs
      clear hs
      go_wp2
      go_region_held3 (fun W => W.cell? ⟨r, 0, none⟩ = some (.string b) ∧ W.cell? ⟨r, 1, none⟩ = some (.int .i64 a))
        (first | exact ⟨d0, d1⟩ | exact ⟨c0, c1⟩)
        (first | (go_at_call 80; refine (HR.out _ _ _ _ _ (HS.out.drew 1)).mono ?_; rintro x w2 ⟨rfl, hs2, hg2⟩; rw [hrf] at hs2; obtain ⟨d0, d1, d2, _, _⟩ := hs2.cells))
      obtain ⟨d0, d1, d2, d3, d4⟩ := hs2.cells
      have HS2 := Lib.hid (hs2.set1 (q : Int))
      have HG2 := Lib.hid (grown_set (grown_trans (grown_drew hg1) hg2) 1 (.int .i64 (q : Int)))
      clear hs2 hg2 hg1 c0 c1 c2 f1 f2
      go_wp2
      clear d0 d1 d2 d3 d4
      generalize w2.setCell ⟨r, 1, none⟩ (.int .i64 (q : Int)) = w3 at HS2 HG2 ⊢
      obtain ⟨d0, d1, d2, d3, d4⟩ := HS2.out.cells
      go_quiet (fail)
      go_wp2
      go_ret
      exact ⟨rfl, ⟨hqb, HS2.out.drew nq⟩, grown_drewN HG2.out nq⟩

set_option maxRecDepth 100000 in
theorem end_calls (r : Nat) (b : ByteArray) (hb : b.size ≤ 4611686018427387904) (s : St) (w : World) (h : Rd w 58 r b s) :
    Calls Try.prog 25 #[.pointer (some ⟨r, 0, none⟩)] w fun x w' => x = .returned (.int .i64 (pEnd b s)) ∧ w.grownBy w' (some r) := by
  obtain ⟨a, e, hs, hE⟩ : ∃ a e : Int, Rs w 58 r b a e ∧ rf (decide (a < b.size)) 37 e = pEnd b s := by
    cases s with
    | error e =>
      obtain ⟨he, a, h⟩ := h
      exact ⟨a, e, h, by simp [rf, pEnd, he]⟩
    | ok a => exact ⟨a, 0, h.2, by simp [rf, pEnd]⟩
  rw [← hE]
  obtain ⟨is, his⟩ : ∃ is, decide (a < (b.size : Int)) = is := ⟨_, rfl⟩
  rw [his]
  have HR := Lib.hid (fun W (h : Rs W 58 r b a e) => refuse_calls r b a e is 37 W h)
  obtain ⟨y, hy⟩ : ∃ y, rf is 37 e = y := ⟨_, rfl⟩
  rw [hy] at HR ⊢
  obtain ⟨c0, c1, c2, f1, f2⟩ := hs.cells
  have HS := Lib.hid hs
  clear hs hE hy h
  go_enter Try.func25, Try.ntmps25
  go_wp2
  go_region_held3 (fun W => W.cell? ⟨r, 0, none⟩ = some (.string b) ∧ W.cell? ⟨r, 1, none⟩ = some (.int .i64 a))
    (first | exact ⟨d0, d1⟩ | exact ⟨c0, c1⟩)
    (first | (go_at_call 80; refine (HR.out _ (HS.out.drew 1)).mono ?_; rintro x w2 ⟨rfl, hs2, hg2⟩; obtain ⟨d0, d1, d2, _, _⟩ := hs2.cells))
  obtain ⟨d0, d1, d2, _, _⟩ := hs2.cells
  have HG2 := Lib.hid (grown_trans (grown_drew (grown_refl w (some r))) hg2)
  clear hs2 hg2 c0 c1 c2 f1 f2
  go_wp2
  go_ret
  exact ⟨rfl, HG2.out⟩

/-- The two bytes ahead, as the program reads them. -/
def hd1 (b : ByteArray) (letter : Int) : St := (pOne b (fun z => z == letter) (Except.ok 0)).1
def hd2 (b : ByteArray) (letter : Int) : St := (pOne b (fun z => decide (1 ≤ z ∧ z ≤ 9)) (hd1 b letter)).1
def hdv (b : ByteArray) (letter : Int) : Int := match hd2 b letter with | .ok _ => (pOne b (fun z => decide (1 ≤ z ∧ z ≤ 9)) (hd1 b letter)).2 | .error _ => 0
theorem pHead_eq (b : ByteArray) (letter : Int) : pHead b letter = (hd2 b letter, hdv b letter) := by
  unfold hdv hd2 hd1 pHead
  by_cases h0 : b.size = 0
  · simp [h0, pOne]
  · by_cases h1 : bat b 0 = letter
    · by_cases h2 : b.size = 1
      · have : b.size ≤ 1 := by omega
        simp [h1, h2, pOne]
      · have h3 : ¬ b.size ≤ 1 := by omega
        by_cases h4 : 1 ≤ bat b 1 ∧ bat b 1 ≤ 9
        · have h5 : ¬ (bat b 1 < 1 ∨ 9 < bat b 1) := by omega
          simp [h0, h1, h2, h3, h4, h5, pOne]
        · have h5 : bat b 1 < 1 ∨ 9 < bat b 1 := by omega
          simp [h0, h1, h2, h3, h4, h5, pOne]
    · have h3 : ¬ b.size ≤ 0 := by omega
      simp [h0, h1, pOne]
set_option maxRecDepth 100000 in
theorem head_calls (letter : Int) (r : Nat) (b : ByteArray) (hb : b.size ≤ 4611686018427387904) (w : World) (h : Rd w 58 r b (Except.ok 0)) :
    Calls Try.prog 23 #[.pointer (some ⟨r, 0, none⟩), .int .u8 letter] w fun x w' => x = .returned (.int .i64 (hdv b letter)) ∧ Rd w' 58 r b (hd2 b letter) ∧ w.grownBy w' (some r) := by
  have hr := h.lt
  have h1 : Rd (w.alloc (.cells #[.int .u8 letter] 5)) 58 r b (Except.ok 0) := h.of (Below.heap_alloc _ _ _ hr)
  have C1 := Lib.hid (one1_calls w.heap.size letter r b hb (Except.ok 0) _ h1 (by simp) (by omega))
  have C2 := Lib.hid (fun W (h : Rd W 58 r b (hd1 b letter)) => one2_calls r b hb (hd1 b letter) W h)
  change Hid (Calls _ _ _ _ fun x w' => _ ∧ Rd w' _ r b (hd1 b letter) ∧ _) at C1
  change Hid (∀ W, _ → Calls _ _ _ _ fun x w' => _ ∧ Rd w' _ r b (hd2 b letter) ∧ _) at C2
  unfold hdv
  generalize pOne b (fun z => decide (1 ≤ z ∧ z ≤ 9)) (hd1 b letter) = q at C2 ⊢
  generalize pOne b (fun z => z == letter) (Except.ok 0) = q1 at C1
  generalize hd1 b letter = s1 at C1 C2
  generalize hd2 b letter = s2 at C2 ⊢
  have HR := Lib.hid hr
  clear h h1 hr
  cases s2 with
  | error e =>
    simp only
    go_enter Try.func23, Try.ntmps23
    go_wp2_with fail
    refine C1.out.mono ?_
    rintro x w1 ⟨rfl, hs1, hg1⟩
    go_wp2_with fail
    refine (C2.out _ hs1).mono ?_
    rintro x w2 ⟨rfl, ⟨he, a, hs2⟩, hg2⟩
    obtain ⟨d0, d1, d2, _, _⟩ := hs2.cells
    have he2 : (e == 0) = false := by rw [beq_eq_false_iff_ne]; exact he
    have HS2 := Lib.hid (show Rd w2 58 r b (Except.error e) from ⟨he, a, hs2⟩)
    have HG := Lib.hid (grown_trans (grown_trans (grown_alloc w _ (some r)) hg1) hg2)
    clear hs1 hg1 hs2 hg2 he
    go_wp2
    go_ret
    exact ⟨rfl, HS2.out, HG.out⟩
  | ok a =>
    simp only
    go_enter Try.func23, Try.ntmps23
    go_wp2_with fail
    refine C1.out.mono ?_
    rintro x w1 ⟨rfl, hs1, hg1⟩
    go_wp2_with fail
    refine (C2.out _ hs1).mono ?_
    rintro x w2 ⟨rfl, hs2, hg2⟩
    obtain ⟨d0, d1, d2, _, _⟩ := hs2.2.cells
    have HS2 := Lib.hid hs2
    have HG := Lib.hid (grown_trans (grown_trans (grown_alloc w _ (some r)) hg1) hg2)
    clear hs1 hg1 hs2 hg2
    go_wp2
    go_ret
    exact ⟨rfl, HS2.out, HG.out⟩
end Go.Proofs.Ytabhjkaheghbhaa

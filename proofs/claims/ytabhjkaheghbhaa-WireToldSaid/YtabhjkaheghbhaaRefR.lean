/-
  WALKS: the document's reader.
-/
import Derived.Test.YtabhjkaheghbhaaRead2
import Derived.Laws.ResultCell
namespace Go.Proofs.Ytabhjkaheghbhaa
open Go.RowKit
set_option linter.unusedVariables false

theorem rrefuse_calls (r : Nat) (b : ByteArray) (a e E : Int) (w : World) (h : Rs w 74 r b a e) :
    Calls Try.prog 81 #[.pointer (some ⟨r, 0, none⟩), .int .i64 E] w fun x w' => x = .returned (.tuple #[]) ∧ Rs w' 74 r b a (rf true E e) ∧ w.grownBy w' (some r) := by
  obtain ⟨c0, c1, c2, f1, f2⟩ := h.cells
  have H := Lib.hid h
  clear h
  by_cases he : e = 0
  · subst he
    have hrf : rf true E 0 = E := by simp [rf]
    rw [hrf]
    go_enter Try.func81, Try.ntmps81
    go_wp2
    go_end0
    exact ⟨rfl, H.out.set2 E, grown_set (grown_refl _ _) _ _⟩
  · have hrf : rf true E e = e := by simp [rf, he]
    rw [hrf]
    have he2 : (e == 0) = false := by rw [beq_eq_false_iff_ne]; exact he
    clear he
    go_enter Try.func81, Try.ntmps81
    go_wp2
    go_end0
    exact ⟨rfl, H.out, grown_refl _ _⟩

set_option maxRecDepth 100000 in
set_option maxHeartbeats 1000000 in
theorem rnumber_calls (most : Nat) (hm : most ≤ 9223372036854775807) (r : Nat) (b : ByteArray) (hb : b.size ≤ 4611686018427387904) (s : St) (w : World) (h : Rd w 74 r b s) :
    Calls Try.prog 42 #[.pointer (some ⟨r, 0, none⟩), .int .i64 most, .int .i64 13] w fun x w' => x = .returned (.int .i64 (pNum b most 13 s).2) ∧ Rd w' 74 r b (pNum b most 13 s).1 ∧ w.grownBy w' (some r) := by
  cases s with
  | error e =>
    obtain ⟨he, a, h⟩ := h
    obtain ⟨c0, c1, c2, f1, f2⟩ := h.cells
    have H := Lib.hid h
    have he2 : (e == 0) = false := by rw [beq_eq_false_iff_ne]; exact he
    have HE := Lib.hid he
    clear h he
    simp only [pNum]
    go_enter Try.func42, Try.ntmps42
    go_wp2
    go_ret
    exact ⟨rfl, ⟨HE.out, a, H.out⟩, grown_refl _ _⟩
  | ok a =>
    obtain ⟨ha, h⟩ := h
    obtain ⟨v, nx, f, hv⟩ : ∃ v nx f, varR b.data.toList a = (v, nx, f) := ⟨_, _, _, rfl⟩
    have hv64 : v < 18446744073709551616 := by have := varR_lt b.data.toList a; rw [hv] at this; exact this
    have CV := RefVar_calls b hb a
    simp only [hv] at CV
    have HCV := Lib.hid CV
    have HR := Lib.hid (fun (E : Int) W (h : Rs W 74 r b a 0) => rrefuse_calls r b a 0 E W h)
    obtain ⟨c0, c1, c2, f1, f2⟩ := h.cells
    have H := Lib.hid h
    have hwm : IntKind.u64.wrap (most : Int) = (most : Int) := by rw [IntKind.wrap_u64]; omega
    have hrf : ∀ E, rf true E 0 = E := fun E => by simp [rf]
    simp only [hrf] at HR
    have hnx := varR_next b a
    rw [hv] at hnx
    clear h CV hrf
    by_cases hf : f = 0
    · subst hf
      obtain ⟨n, e1, _, e3⟩ := hnx rfl
      simp only at e1
      subst e1
      by_cases hmv : most < v
      · have hp : pNum b most 13 (Except.ok a) = (Except.error 13, 0) := by
          unfold pNum
          simp only [hv]
          by_cases hl : 9223372036854775807 < v
          · simp [hl]
          · simp [hl, hmv]
        rw [hp]
        have hd : decide (most < v) = true := by simpa using hmv
        clear hp hv hnx
        go_enter Try.func42, Try.ntmps42
        go_wp2
        go_quiet ((go_at_call 90; exact quiet_left (HCV.out _)))
        have HS := Lib.hid (H.out.drew nq)
        have HG := Lib.hid (grown_drewN (grown_refl w (some r)) nq)
        clear c0 c1 c2 f1 f2 H
        generalize w.drewN nq = w1 at HS HG
        go_wp2_with fail
        refine (HR.out _ _ HS.out).mono ?_
        rintro x w2 ⟨rfl, hs2, hg2⟩
        have HS2 := Lib.hid hs2
        have HG2 := Lib.hid (grown_trans HG.out hg2)
        clear hs2 hg2
        go_wp2
        go_ret
        exact ⟨rfl, ⟨by decide, _, HS2.out⟩, HG2.out⟩
      · have hp : pNum b most 13 (Except.ok a) = (Except.ok n, (v : Int)) := by
          unfold pNum
          simp only [hv]
          have hl : ¬ 9223372036854775807 < v := by omega
          simp [hl, hmv]
        rw [hp]
        have hd : decide (most < v) = false := by simp; omega
        have hwv : IntKind.i64.wrap (v : Int) = (v : Int) := by rw [IntKind.wrap_i64]; omega
        clear hp hv hnx
        go_enter Try.func42, Try.ntmps42
        go_wp2
        go_quiet ((go_at_call 90; exact quiet_left (HCV.out _)))
        have HS := Lib.hid (H.out.drew nq)
        have HG := Lib.hid (grown_drewN (grown_refl w (some r)) nq)
        clear c0 c1 c2 f1 f2 H
        generalize w.drewN nq = w1 at HS HG
        obtain ⟨c0, c1, c2, f1, f2⟩ := HS.out.cells
        have HS5 := Lib.hid (HS.out.set1 (n : Int))
        have HG5 := Lib.hid (grown_set HG.out 1 (.int .i64 (n : Int)))
        go_wp2
        go_ret
        exact ⟨rfl, ⟨e3, HS5.out⟩, HG5.out⟩
    · have hp : pNum b most 13 (Except.ok a) = (Except.error f, 0) := by
        unfold pNum
        simp only [hv]
        simp [hf]
      rw [hp]
      have hf2 : (f == 0) = false := by rw [beq_eq_false_iff_ne]; exact hf
      have HF := Lib.hid hf
      clear hp hv hnx hf
      go_enter Try.func42, Try.ntmps42
      go_wp2
      go_quiet ((go_at_call 90; exact quiet_left (HCV.out _)))
      have HS := Lib.hid (H.out.drew nq)
      have HG := Lib.hid (grown_drewN (grown_refl w (some r)) nq)
      clear c0 c1 c2 f1 f2 H
      generalize w.drewN nq = w1 at HS HG
      go_wp2_with fail
      refine (HR.out _ _ HS.out).mono ?_
      rintro x w2 ⟨rfl, hs2, hg2⟩
      have HS2 := Lib.hid hs2
      have HG2 := Lib.hid (grown_trans HG.out hg2)
      clear hs2 hg2
      go_wp2
      go_ret
      exact ⟨rfl, ⟨HF.out, _, HS2.out⟩, HG2.out⟩
set_option maxRecDepth 100000 in
theorem rany_calls (r : Nat) (b : ByteArray) (hb : b.size ≤ 4611686018427387904) (s : St) (w : World) (h : Rd w 74 r b s) :
    Calls Try.prog 28 #[.pointer (some ⟨r, 0, none⟩)] w fun x w' => x = .returned (.int .i64 (pNum b 9223372036854775807 13 s).2) ∧ Rd w' 74 r b (pNum b 9223372036854775807 13 s).1 ∧ w.grownBy w' (some r) := by
  have C := Lib.hid (rnumber_calls 9223372036854775807 (by decide) r b hb s w h)
  generalize pNum b 9223372036854775807 13 s = q at C ⊢
  go_enter Try.func28, Try.ntmps28
  go_wp2_with fail
  refine C.out.mono ?_
  rintro x w1 ⟨rfl, h1, h2⟩
  go_wp2
  go_ret
  exact ⟨rfl, h1, h2⟩
end Go.Proofs.Ytabhjkaheghbhaa

/-
  WALKS: the program's reader.
-/
import Derived.Test.YtabhjkaheghbhaaReadP
import Derived.Test.YtabhjkaheghbhaaVar
import Derived.Deep.RegionHeld3
import Derived.Deep.QuietTactic
import Derived.BigQuiet
import Derived.RegionTactic
namespace Go.Proofs.Ytabhjkaheghbhaa
open Go.RowKit
set_option linter.unusedVariables false

theorem refuse_calls (r : Nat) (b : ByteArray) (a e : Int) (is : Bool) (E : Int) (w : World) (h : Rs w 58 r b a e) :
    Calls Try.prog 80 #[.pointer (some ⟨r, 0, none⟩), .bool is, .int .i64 E] w fun x w' => x = .returned (.tuple #[]) ∧ Rs w' 58 r b a (rf is E e) ∧ w.grownBy w' (some r) := by
  obtain ⟨c0, c1, c2, f1, f2⟩ := h.cells
  have H := Lib.hid h
  clear h
  cases is
  · have hrf : rf false E e = e := by simp [rf]
    rw [hrf]
    go_enter Try.func80, Try.ntmps80
    go_wp2
    go_end0
    exact ⟨rfl, H.out, grown_refl _ _⟩
  · by_cases he : e = 0
    · subst he
      have hrf : rf true E 0 = E := by simp [rf]
      rw [hrf]
      go_enter Try.func80, Try.ntmps80
      go_wp2
      go_end0
      exact ⟨rfl, H.out.set2 E, grown_set (grown_refl _ _) _ _⟩
    · have hrf : rf true E e = e := by simp [rf, he]
      rw [hrf]
      have he2 : (e == 0) = false := by rw [beq_eq_false_iff_ne]; exact he
      clear he
      go_enter Try.func80, Try.ntmps80
      go_wp2
      go_end0
      exact ⟨rfl, H.out, grown_refl _ _⟩

theorem known_calls (z : Int) (w : World) : Calls Try.prog 31 #[.int .i64 z] w fun x w' => x = .returned (.bool (decide (1 ≤ z ∧ z ≤ 9))) ∧ w' = w := by
  by_cases h1 : 1 ≤ z
  · by_cases h2 : z ≤ 9
    · have hh : decide (1 ≤ z ∧ z ≤ 9) = true := by simp; omega
      rw [hh]
      go_enter Try.func31, Try.ntmps31
      go_wp2
      go_ret
      exact ⟨rfl, rfl⟩
    · have hh : decide (1 ≤ z ∧ z ≤ 9) = false := by simp; omega
      rw [hh]
      have h3 : decide (z ≤ 9) = false := by simp; omega
      go_enter Try.func31, Try.ntmps31
      go_wp2
      go_ret
      exact ⟨rfl, rfl⟩
  · have hh : decide (1 ≤ z ∧ z ≤ 9) = false := by simp; omega
    rw [hh]
    have h3 : decide (1 ≤ z) = false := by simp; omega
    go_enter Try.func31, Try.ntmps31
    go_wp2
    go_ret
    exact ⟨rfl, rfl⟩
theorem head2_calls (z : Int) (h0 : 0 ≤ z) (h1 : z < 256) (w : World) : Calls Try.prog 47 #[.int .u8 z] w fun x w' => x = .returned (.bool (decide (1 ≤ z ∧ z ≤ 9))) ∧ w' = w := by
  have hw : IntKind.i64.wrap z = z := by rw [IntKind.wrap_i64]; omega
  obtain ⟨d, hd⟩ : ∃ d, decide (1 ≤ z ∧ z ≤ 9) = d := ⟨_, rfl⟩
  have K := known_calls z
  rw [hd]
  simp only [hd] at K
  have HK := Lib.hid K
  clear K hd
  go_enter Try.func47, Try.ntmps47
  go_wp2_with fail
  refine (HK.out _).mono ?_
  rintro e w1 ⟨rfl, rfl⟩
  go_wp2
  go_ret
  exact ⟨rfl, rfl⟩
def pOne (b : ByteArray) (goes : Int → Bool) : St → St × Int
  | .error e => (.error e, 0)
  | .ok a => if b.size ≤ a then (.error 31, 0) else (if goes (bat b a) then .ok (a + 1) else .error 35, bat b a)
set_option maxRecDepth 100000 in
theorem one2_calls (r : Nat) (b : ByteArray) (hb : b.size ≤ 4611686018427387904) (s : St) (w : World) (h : Rd w 58 r b s) :
    Calls Try.prog 45 #[.pointer (some ⟨r, 0, none⟩), .func (.func 47) #[] #[]] w fun x w' => x = .returned (.int .i64 (pOne b (fun z => decide (1 ≤ z ∧ z ≤ 9)) s).2) ∧ Rd w' 58 r b (pOne b (fun z => decide (1 ≤ z ∧ z ≤ 9)) s).1 ∧ w.grownBy w' (some r) := by
  cases s with
  | error e =>
    obtain ⟨he, a, h⟩ := h
    have hR := fun (is : Bool) W (h : Rs W 58 r b a e) => refuse_calls r b a e is 31 W h
    have hrf : ∀ is, rf is 31 e = e := fun is => by simp [rf, he]
    simp only [hrf] at hR
    obtain ⟨c0, c1, c2, f1, f2⟩ := h.cells
    have H := Lib.hid h
    have HR := Lib.hid hR
    have he2 : (e == 0) = false := by rw [beq_eq_false_iff_ne]; exact he
    have HE := Lib.hid he
    clear h hR he hrf
    simp only [pOne]
    go_enter Try.func45, Try.ntmps45
    go_wp2
    go_region_held3 (fun W => W.cell? ⟨r, 0, none⟩ = some (.string b) ∧ W.cell? ⟨r, 1, none⟩ = some (.int .i64 a))
      (first | exact ⟨d0, d1⟩ | exact ⟨c0, c1⟩)
      (first | (go_at_call 80; refine (HR.out _ _ (H.out.drew 1)).mono ?_; rintro x w1 ⟨rfl, hs, hg⟩; obtain ⟨d0, d1, d2, _, _⟩ := hs.cells))
    obtain ⟨d0, d1, d2, _, _⟩ := hs.cells
    have HS := Lib.hid hs
    have HG := Lib.hid (grown_trans (grown_drew (grown_refl w (some r))) hg)
    clear hs hg c0 c1 c2 f1 f2
    go_wp2
    go_ret
    exact ⟨rfl, ⟨HE.out, a, HS.out⟩, HG.out⟩
  | ok a =>
    obtain ⟨ha, h⟩ := h
    have hR := fun (is : Bool) (E : Int) W (h : Rs W 58 r b a 0) => refuse_calls r b a 0 is E W h
    have hR2 := fun (is : Bool) W (h : Rs W 58 r b ((a : Int) + 1) 0) => refuse_calls r b ((a : Int) + 1) 0 is 35 W h
    obtain ⟨c0, c1, c2, f1, f2⟩ := h.cells
    have H := Lib.hid h
    have HR := Lib.hid hR
    have HR2 := Lib.hid hR2
    clear h hR hR2
    by_cases hlt : b.size ≤ a
    · have hp : pOne b (fun z => decide (1 ≤ z ∧ z ≤ 9)) (.ok a) = (.error 31, 0) := by simp [pOne, hlt]
      rw [hp]
      have hd : decide ((b.size : Int) ≤ (a : Int)) = true := by simp; exact hlt
      have hrf : rf true 31 0 = 31 := by simp [rf]
      clear hp
      go_enter Try.func45, Try.ntmps45
      go_wp2
      go_region_held3 (fun W => W.cell? ⟨r, 0, none⟩ = some (.string b) ∧ W.cell? ⟨r, 1, none⟩ = some (.int .i64 a))
        (first | exact ⟨d0, d1⟩ | exact ⟨c0, c1⟩)
        (first | (go_at_call 80; refine (HR.out _ _ _ (H.out.drew 1)).mono ?_; rintro x w1 ⟨rfl, hs, hg⟩; obtain ⟨d0, d1, d2, _, _⟩ := hs.cells))
      rw [hrf] at hs
      obtain ⟨d0, d1, d2, _, _⟩ := hs.cells
      have HS := Lib.hid hs
      have HG := Lib.hid (grown_trans (grown_drew (grown_refl w (some r))) hg)
      clear hs hg c0 c1 c2 f1 f2
      go_wp2
      go_ret
      exact ⟨rfl, ⟨by decide, a, HS.out⟩, HG.out⟩
    · have hlt2 : a < b.size := by omega
      have hd : decide ((b.size : Int) ≤ (a : Int)) = false := by simp; exact hlt2
      have hrf : rf false 31 0 = 0 := by simp [rf]
      have hix := fun W => idx_str (P := Try.prog) 9 Try.underlying9 b a a rfl hlt2 W
      have hbl := bat_lt b a
      have hp : pOne b (fun z => decide (1 ≤ z ∧ z ≤ 9)) (.ok a) = (if decide (1 ≤ bat b a ∧ bat b a ≤ 9) then .ok (a + 1) else .error 35, bat b a) := by simp [pOne, hlt]
      rw [hp]
      have K := fun W => head2_calls (bat b a) hbl.1 hbl.2 W
      obtain ⟨c, hc⟩ : ∃ c, bat b a = c := ⟨_, rfl⟩
      rw [hc] at hbl ⊢
      simp only [hc] at hix K
      obtain ⟨g, hgg⟩ : ∃ g, decide (1 ≤ c ∧ c ≤ 9) = g := ⟨_, rfl⟩
      rw [hgg]
      simp only [hgg] at K
      have HK := Lib.hid K
      have hwc : IntKind.i64.wrap c = c := by rw [IntKind.wrap_i64]; omega
      have hwa : IntKind.i64.wrap ((a : Int) + 1) = (a : Int) + 1 := by rw [IntKind.wrap_i64]; omega
      clear hp hgg hc K
      go_enter Try.func45, Try.ntmps45
      go_wp2
      go_region_held3 (fun W => W.cell? ⟨r, 0, none⟩ = some (.string b) ∧ W.cell? ⟨r, 1, none⟩ = some (.int .i64 a))
        (first | exact ⟨d0, d1⟩ | exact ⟨c0, c1⟩)
        (first | (go_at_call 80; refine (HR.out _ _ _ (H.out.drew 1)).mono ?_; rintro x w1 ⟨rfl, hs, hg⟩; obtain ⟨d0, d1, d2, _, _⟩ := hs.cells))
      rw [hrf] at hs
      obtain ⟨d0, d1, d2, d3, d4⟩ := hs.cells
      have HS := Lib.hid hs
      have HG := Lib.hid (grown_trans (grown_drew (grown_refl w (some r))) hg)
      clear hs hg c0 c1 c2 f1 f2 hd
      go_wp2
      go_quiet (fail)
      have HS2 := Lib.hid ((HS.out.drew nq).set1 ((a : Int) + 1))
      have HG2 := Lib.hid (grown_set (grown_drewN HG.out nq) 1 (.int .i64 ((a : Int) + 1)))
      clear d0 d1 d2 d3 d4
      obtain ⟨d0, d1, d2, d3, d4⟩ := (HS.out.drew nq).cells
      go_wp2_with fail
      refine (HK.out _).mono ?_
      rintro x y ⟨rfl, rfl⟩
      go_wp2_with fail
      refine (HR2.out _ _ HS2.out).mono ?_
      rintro x w2 ⟨rfl, hs, hg⟩
      have HG3 := Lib.hid (grown_trans HG2.out hg)
      have HS3 := Lib.hid hs
      clear hs hg
      cases g
      · go_wp2
        go_ret
        exact ⟨rfl, ⟨by decide, _, HS3.out⟩, HG3.out⟩
      · go_wp2
        go_ret
        exact ⟨rfl, ⟨hlt2, by simpa [rf] using HS3.out⟩, HG3.out⟩
theorem head1_calls (l : Nat) (letter z : Int) (h0 : 0 ≤ z) (h1 : z < 256) (w : World) (hl : w.cell? ⟨l, 0, none⟩ = some (.int .u8 letter)) : Calls Try.prog 46 #[.int .u8 z, .pointer (some ⟨l, 0, none⟩)] w fun x w' => x = .returned (.bool (z == letter)) ∧ w' = w := by
  go_enter Try.func46, Try.ntmps46
  go_wp2
  go_ret
  exact ⟨rfl, rfl⟩
theorem cell_lt' {w : World} {p : Addr} {v : Value} (h : w.cell? p = some v) : p.block < w.heap.size := by
  rcases Nat.lt_or_ge p.block w.heap.size with h' | h'
  · exact h'
  · simp [World.cell?, Array.getElem?_eq_none h'] at h
theorem grown_cell {w w' : World} {r l j : Nat} {v : Value} (h : w.grownBy w' (some r)) (hl : (⟨l, j, none⟩ : Addr).block < w.heap.size) (hlr : l ≠ r) (hc : w.cell? ⟨l, j, none⟩ = some v) : w'.cell? ⟨l, j, none⟩ = some v := by
  rw [h.cell_far ⟨l, j, none⟩ hl (fun e => hlr (Option.some.inj e))]; exact hc
set_option maxRecDepth 100000 in
theorem one1_calls (l : Nat) (letter : Int) (r : Nat) (b : ByteArray) (hb : b.size ≤ 4611686018427387904) (s : St) (w : World) (h : Rd w 58 r b s) (hl : w.cell? ⟨l, 0, none⟩ = some (.int .u8 letter)) (hlr : l ≠ r) :
    Calls Try.prog 45 #[.pointer (some ⟨r, 0, none⟩), .func (.func 46) #[] #[.pointer (some ⟨l, 0, none⟩)]] w fun x w' => x = .returned (.int .i64 (pOne b (fun z => z == letter) s).2) ∧ Rd w' 58 r b (pOne b (fun z => z == letter) s).1 ∧ w.grownBy w' (some r) := by
  have HLC := Lib.hid hl
  clear hl
  cases s with
  | error e =>
    obtain ⟨he, a, h⟩ := h
    have hR := fun (is : Bool) W (h : Rs W 58 r b a e) => refuse_calls r b a e is 31 W h
    have hrf : ∀ is, rf is 31 e = e := fun is => by simp [rf, he]
    simp only [hrf] at hR
    obtain ⟨c0, c1, c2, f1, f2⟩ := h.cells
    have H := Lib.hid h
    have HR := Lib.hid hR
    have he2 : (e == 0) = false := by rw [beq_eq_false_iff_ne]; exact he
    have HE := Lib.hid he
    clear h hR he hrf
    simp only [pOne]
    go_enter Try.func45, Try.ntmps45
    go_wp2
    go_region_held3 (fun W => W.cell? ⟨r, 0, none⟩ = some (.string b) ∧ W.cell? ⟨r, 1, none⟩ = some (.int .i64 a))
      (first | exact ⟨d0, d1⟩ | exact ⟨c0, c1⟩)
      (first | (go_at_call 80; refine (HR.out _ _ (H.out.drew 1)).mono ?_; rintro x w1 ⟨rfl, hs, hg⟩; obtain ⟨d0, d1, d2, _, _⟩ := hs.cells))
    obtain ⟨d0, d1, d2, _, _⟩ := hs.cells
    have HS := Lib.hid hs
    have HG := Lib.hid (grown_trans (grown_drew (grown_refl w (some r))) hg)
    clear hs hg c0 c1 c2 f1 f2
    go_wp2
    go_ret
    exact ⟨rfl, ⟨HE.out, a, HS.out⟩, HG.out⟩
  | ok a =>
    obtain ⟨ha, h⟩ := h
    have hR := fun (is : Bool) (E : Int) W (h : Rs W 58 r b a 0) => refuse_calls r b a 0 is E W h
    have hR2 := fun (is : Bool) W (h : Rs W 58 r b ((a : Int) + 1) 0) => refuse_calls r b ((a : Int) + 1) 0 is 35 W h
    obtain ⟨c0, c1, c2, f1, f2⟩ := h.cells
    have H := Lib.hid h
    have HR := Lib.hid hR
    have HR2 := Lib.hid hR2
    clear h hR hR2
    by_cases hlt : b.size ≤ a
    · have hp : pOne b (fun z => z == letter) (.ok a) = (.error 31, 0) := by simp [pOne, hlt]
      rw [hp]
      have hd : decide ((b.size : Int) ≤ (a : Int)) = true := by simp; exact hlt
      have hrf : rf true 31 0 = 31 := by simp [rf]
      clear hp
      go_enter Try.func45, Try.ntmps45
      go_wp2
      go_region_held3 (fun W => W.cell? ⟨r, 0, none⟩ = some (.string b) ∧ W.cell? ⟨r, 1, none⟩ = some (.int .i64 a))
        (first | exact ⟨d0, d1⟩ | exact ⟨c0, c1⟩)
        (first | (go_at_call 80; refine (HR.out _ _ _ (H.out.drew 1)).mono ?_; rintro x w1 ⟨rfl, hs, hg⟩; obtain ⟨d0, d1, d2, _, _⟩ := hs.cells))
      rw [hrf] at hs
      obtain ⟨d0, d1, d2, _, _⟩ := hs.cells
      have HS := Lib.hid hs
      have HG := Lib.hid (grown_trans (grown_drew (grown_refl w (some r))) hg)
      clear hs hg c0 c1 c2 f1 f2
      go_wp2
      go_ret
      exact ⟨rfl, ⟨by decide, a, HS.out⟩, HG.out⟩
    · have hlt2 : a < b.size := by omega
      have hd : decide ((b.size : Int) ≤ (a : Int)) = false := by simp; exact hlt2
      have hrf : rf false 31 0 = 0 := by simp [rf]
      have hix := fun W => idx_str (P := Try.prog) 9 Try.underlying9 b a a rfl hlt2 W
      have hbl := bat_lt b a
      have hp : pOne b (fun z => z == letter) (.ok a) = (if bat b a == letter then .ok (a + 1) else .error 35, bat b a) := by simp [pOne, hlt]
      rw [hp]
      have K := fun W => head1_calls l letter (bat b a) hbl.1 hbl.2 W
      obtain ⟨c, hc⟩ : ∃ c, bat b a = c := ⟨_, rfl⟩
      rw [hc] at hbl ⊢
      simp only [hc] at hix K
      obtain ⟨g, hgg⟩ : ∃ g, (c == letter) = g := ⟨_, rfl⟩
      rw [hgg]
      simp only [hgg] at K
      have HK := Lib.hid K
      have hwc : IntKind.i64.wrap c = c := by rw [IntKind.wrap_i64]; omega
      have hwa : IntKind.i64.wrap ((a : Int) + 1) = (a : Int) + 1 := by rw [IntKind.wrap_i64]; omega
      clear hp hgg hc K
      go_enter Try.func45, Try.ntmps45
      go_wp2
      go_region_held3 (fun W => W.cell? ⟨r, 0, none⟩ = some (.string b) ∧ W.cell? ⟨r, 1, none⟩ = some (.int .i64 a))
        (first | exact ⟨d0, d1⟩ | exact ⟨c0, c1⟩)
        (first | (go_at_call 80; refine (HR.out _ _ _ (H.out.drew 1)).mono ?_; rintro x w1 ⟨rfl, hs, hg⟩; obtain ⟨d0, d1, d2, _, _⟩ := hs.cells))
      rw [hrf] at hs
      obtain ⟨d0, d1, d2, d3, d4⟩ := hs.cells
      have HS := Lib.hid hs
      have HG := Lib.hid (grown_trans (grown_drew (grown_refl w (some r))) hg)
      clear hs hg c0 c1 c2 f1 f2 hd
      go_wp2
      go_quiet (fail)
      have HS2 := Lib.hid ((HS.out.drew nq).set1 ((a : Int) + 1))
      have HG2 := Lib.hid (grown_set (grown_drewN HG.out nq) 1 (.int .i64 ((a : Int) + 1)))
      clear d0 d1 d2 d3 d4
      obtain ⟨d0, d1, d2, d3, d4⟩ := (HS.out.drew nq).cells
      go_wp2_with fail
      refine (HK.out _ (grown_cell HG2.out (cell_lt' HLC.out) hlr HLC.out)).mono ?_
      rintro x y ⟨rfl, rfl⟩
      go_wp2_with fail
      refine (HR2.out _ _ HS2.out).mono ?_
      rintro x w2 ⟨rfl, hs, hg⟩
      have HG3 := Lib.hid (grown_trans HG2.out hg)
      have HS3 := Lib.hid hs
      clear hs hg
      cases g
      · go_wp2
        go_ret
        exact ⟨rfl, ⟨by decide, _, HS3.out⟩, HG3.out⟩
      · go_wp2
        go_ret
        exact ⟨rfl, ⟨hlt2, by simpa [rf] using HS3.out⟩, HG3.out⟩
end Go.Proofs.Ytabhjkaheghbhaa

/-
  WALKS: the document's reader, and its Asked. (Printed by raskgen.py.)
-/
import Derived.Test.YtabhjkaheghbhaaRefR
import Derived.Test.YtabhjkaheghbhaaAskm
namespace Go.Proofs.Ytabhjkaheghbhaa
open Go.RowKit
set_option linter.unusedVariables false

theorem pText_eq (b : ByteArray) (s : St) : pText b s = match pNum b 9223372036854775807 13 s with
    | (.error e, _) => (.error e, ⟨#[]⟩)
    | (.ok a, n) => if 65536 < n then (.error 36, ⟨#[]⟩) else if (b.size : Int) - a < n then (.error 31, ⟨#[]⟩) else (.ok (a + n.toNat), b.extract a (a + n.toNat)) := by
  unfold pText
  cases s with
  | error e => rfl
  | ok a =>
    unfold pNum
    simp only
    by_cases h1 : (varR b.data.toList a).2.2 = 0
    · by_cases h2 : 9223372036854775807 < (varR b.data.toList a).1
      · simp [h1, h2]
      · by_cases h3 : 65536 < (varR b.data.toList a).1
        · have h4 : (65536 : Int) < ((varR b.data.toList a).1 : Int) := by omega
          simp [h1, h2, h3, h4]
        · have h4 : ¬ (65536 : Int) < ((varR b.data.toList a).1 : Int) := by omega
          simp [h1, h2, h3, h4]
    · simp [h1]

set_option maxRecDepth 100000 in
set_option maxHeartbeats 1000000 in
theorem rtext_calls (r : Nat) (b : ByteArray) (hb : b.size ≤ 4611686018427387904) (s : St) (w : World) (h : Rd w 74 r b s) :
    Calls Try.prog 29 #[.pointer (some ⟨r, 0, none⟩)] w fun x w' => x = .returned (.string (pText b s).2) ∧ Rd w' 74 r b (pText b s).1 ∧ w.grownBy w' (some r) := by
  rw [pText_eq]
  have C := Lib.hid (rany_calls r b hb s w h)
  have HR := Lib.hid (fun (a : Int) (E : Int) W (h : Rs W 74 r b a 0) => rrefuse_calls r b a 0 E W h)
  have hrf : ∀ E, rf true E 0 = E := fun E => by simp [rf]
  simp only [hrf] at HR
  obtain ⟨s1, n, hn⟩ : ∃ s1 n, pNum b 9223372036854775807 13 s = (s1, n) := ⟨_, _, rfl⟩
  rw [hn] at C
  have hok := fun a (e : s1 = Except.ok a) => pNum_ok (hn.trans (by rw [e]))
  have hn0 : 0 ≤ n ∧ n ≤ 9223372036854775807 := by have := pNum_le b 9223372036854775807 13 s; rw [hn] at this; exact this
  rw [hn]
  clear hn h hrf
  cases s1 with
  | error e =>
    simp only
    go_enter Try.func29, Try.ntmps29
    go_wp2_with fail
    refine C.out.mono ?_
    rintro x w1 ⟨rfl, ⟨he, a, hs⟩, hg1⟩
    obtain ⟨c0, c1, c2, f1, f2⟩ := hs.cells
    have HS := Lib.hid hs
    have he2 : (e == 0) = false := by rw [beq_eq_false_iff_ne]; exact he
    have HE := Lib.hid he
    clear hs he
    go_wp2
    go_ret
    exact ⟨rfl, ⟨HE.out, a, HS.out⟩, hg1⟩
  | ok a =>
    simp only
    by_cases hbg : 65536 < n
    · rw [if_pos hbg]
      have hd : decide (65536 < n) = true := by simpa using hbg
      clear hok
      go_enter Try.func29, Try.ntmps29
      go_wp2_with fail
      refine C.out.mono ?_
      rintro x w1 ⟨rfl, ⟨ha, hs⟩, hg1⟩
      obtain ⟨c0, c1, c2, f1, f2⟩ := hs.cells
      have HS := Lib.hid hs
      clear hs
      go_wp2_with fail
      refine (HR.out _ _ _ HS.out).mono ?_
      rintro x w2 ⟨rfl, hs2, hg2⟩
      have HS2 := Lib.hid hs2
      have HG2 := Lib.hid (grown_trans hg1 hg2)
      clear hs2 hg2 hg1 c0 c1 c2 f1 f2
      go_wp2
      go_ret
      exact ⟨rfl, ⟨by decide, a, HS2.out⟩, HG2.out⟩
    · rw [if_neg hbg]
      have hd0 : decide (65536 < n) = false := by simpa using hbg
      by_cases hsh : (b.size : Int) - a < n
      · rw [if_pos hsh]
        have hd : decide ((b.size : Int) - (a : Int) < n) = true := by simpa using hsh
        have ha := hok a rfl
        have hws : IntKind.i64.wrap ((b.size : Int) - (a : Int)) = (b.size : Int) - (a : Int) := by rw [IntKind.wrap_i64]; omega
        clear hok
        go_enter Try.func29, Try.ntmps29
        go_wp2_with fail
        refine C.out.mono ?_
        rintro x w1 ⟨rfl, ⟨_, hs⟩, hg1⟩
        obtain ⟨c0, c1, c2, f1, f2⟩ := hs.cells
        have HS := Lib.hid hs
        clear hs
        go_wp2
        go_quiet (fail)
        go_wp2_with fail
        refine (HR.out _ _ _ (HS.out.drew nq)).mono ?_
        rintro x w2 ⟨rfl, hs2, hg2⟩
        have HS2 := Lib.hid hs2
        have HG2 := Lib.hid (grown_trans (grown_drewN hg1 nq) hg2)
        clear hs2 hg2 hg1 c0 c1 c2 f1 f2
        go_wp2
        go_ret
        exact ⟨rfl, ⟨by decide, a, HS2.out⟩, HG2.out⟩
      · rw [if_neg hsh]
        have hd : decide ((b.size : Int) - (a : Int) < n) = false := by simp; omega
        obtain ⟨m, rfl⟩ : ∃ m : Nat, n = m := ⟨n.toNat, by omega⟩
        have ha := hok a rfl
        have hws : IntKind.i64.wrap ((b.size : Int) - (a : Int)) = (b.size : Int) - (a : Int) := by rw [IntKind.wrap_i64]; omega
        have hwp : IntKind.i64.wrap ((a : Int) + (m : Int)) = ((a + m : Nat) : Int) := by rw [IntKind.wrap_i64]; omega
        have hwm : IntKind.i64.wrap (((a + m : Nat) : Int) - (m : Int)) = (a : Int) := by rw [IntKind.wrap_i64]; omega
        have hsl := fun W => run_slice_string (P := Try.prog) W 9 b .i64 .i64 (a : Int) ((a + m : Nat) : Int) Try.underlying9 (by omega) (by omega) (by omega)
        simp only [Int.toNat_natCast] at hsl ⊢
        obtain ⟨q, hq⟩ : ∃ q, a + m = q := ⟨_, rfl⟩
        rw [hq] at hwp hwm ⊢
        simp only [hq] at hsl
        have hqb : q ≤ b.size := by omega
        clear hok hq hsh hbg
        go_enter Try.func29, Try.ntmps29
        go_wp2_with fail
        refine C.out.mono ?_
        rintro x w1 ⟨rfl, ⟨_, hs⟩, hg1⟩
        obtain ⟨c0, c1, c2, f1, f2⟩ := hs.cells
        have HS := Lib.hid hs
        clear hs
        go_wp2
        go_quiet (fail)
        have HS1 := Lib.hid (HS.out.drew nq)
        have HG1 := Lib.hid (grown_drewN hg1 nq)
        clear c0 c1 c2 f1 f2
        generalize w1.drewN nq = w2 at HS1 HG1 ⊢
        obtain ⟨d0, d1, d2, d3, d4⟩ := HS1.out.cells
        have HS2 := Lib.hid (HS1.out.set1 (q : Int))
        have HG2 := Lib.hid (grown_set HG1.out 1 (.int .i64 (q : Int)))
        go_wp2
        clear d0 d1 d2 d3 d4
        generalize w2.setCell ⟨r, 1, none⟩ (.int .i64 (q : Int)) = w3 at HS2 HG2 ⊢
        obtain ⟨d0, d1, d2, d3, d4⟩ := HS2.out.cells
        go_quiet (fail)
        go_wp2
        go_ret
        exact ⟨rfl, ⟨hqb, HS2.out.drew _⟩, grown_drewN HG2.out _⟩

set_option maxRecDepth 100000 in
theorem ended_calls (r : Nat) (b : ByteArray) (hb : b.size ≤ 4611686018427387904) (s : St) (w : World) (h : Rd w 74 r b s) :
    Calls Try.prog 30 #[.pointer (some ⟨r, 0, none⟩)] w fun x w' => x = .returned (.int .i64 (pEnd b s)) ∧ w.grownBy w' (some r) := by
  obtain ⟨a, e, hs, hE⟩ : ∃ a e : Int, Rs w 74 r b a e ∧ (if a < b.size then rf true 37 e else e) = pEnd b s := by
    cases s with
    | error e =>
      obtain ⟨he, a, h⟩ := h
      exact ⟨a, e, h, by simp [rf, pEnd, he]⟩
    | ok a => exact ⟨a, 0, h.2, by simp [rf, pEnd]⟩
  rw [← hE]
  have HR := Lib.hid (fun W (h : Rs W 74 r b a e) => rrefuse_calls r b a e 37 W h)
  obtain ⟨c0, c1, c2, f1, f2⟩ := hs.cells
  have HS := Lib.hid hs
  clear hs hE h
  by_cases hlt : a < b.size
  · rw [if_pos hlt]
    have hd : decide (a < (b.size : Int)) = true := by simpa using hlt
    generalize rf true 37 e = y at HR ⊢
    go_enter Try.func30, Try.ntmps30
    go_wp2
    go_quiet (fail)
    have HS1 := Lib.hid (HS.out.drew nq)
    have HG1 := Lib.hid (grown_drewN (grown_refl w (some r)) nq)
    clear c0 c1 c2 f1 f2
    generalize w.drewN nq = w1 at HS1 HG1 ⊢
    go_wp2_with fail
    refine (HR.out _ HS1.out).mono ?_
    rintro x w2 ⟨rfl, hs2, hg2⟩
    obtain ⟨d0, d1, d2, _, _⟩ := hs2.cells
    have HG2 := Lib.hid (grown_trans HG1.out hg2)
    clear hs2 hg2
    go_wp2
    go_ret
    exact ⟨rfl, HG2.out⟩
  · rw [if_neg hlt]
    have hd : decide (a < (b.size : Int)) = false := by simpa using hlt
    go_enter Try.func30, Try.ntmps30
    go_wp2
    go_quiet (fail)
    have HS1 := Lib.hid (HS.out.drew nq)
    have HG1 := Lib.hid (grown_drewN (grown_refl w (some r)) nq)
    clear c0 c1 c2 f1 f2
    generalize w.drewN nq = w1 at HS1 HG1 ⊢
    obtain ⟨d0, d1, d2, _, _⟩ := HS1.out.cells
    go_wp2
    go_ret
    exact ⟨rfl, HG1.out⟩

set_option maxRecDepth 100000 in
set_option maxHeartbeats 1000000 in
theorem begun_calls (letter : Int) (r : Nat) (b : ByteArray) (hb : b.size ≤ 4611686018427387904) (w : World) (h : Rd w 74 r b (Except.ok 0)) :
    Calls Try.prog 26 #[.pointer (some ⟨r, 0, none⟩), .int .u8 letter] w fun x w' => x = .returned (.int .i64 (hdv b letter)) ∧ Rd w' 74 r b (hd2 b letter) ∧ w.grownBy w' (some r) := by
  obtain ⟨p1, p2, hp⟩ : ∃ p1 p2, pHead b letter = (p1, p2) := ⟨_, _, rfl⟩
  have h12 := hp
  rw [pHead_eq] at h12
  have e1 : hd2 b letter = p1 := congrArg Prod.fst h12
  have e2 : hdv b letter = p2 := congrArg Prod.snd h12
  rw [e1, e2]
  clear h12 e1 e2
  have HR := Lib.hid (fun (a : Int) (E : Int) W (h : Rs W 74 r b a 0) => rrefuse_calls r b a 0 E W h)
  have hrf : ∀ E, rf true E 0 = E := fun E => by simp [rf]
  simp only [hrf] at HR
  clear hrf
  obtain ⟨_, h⟩ := h
  obtain ⟨c0, c1, c2, f1, f2⟩ := h.cells
  have H := Lib.hid h
  clear h
  unfold pHead at hp
  by_cases h0 : b.size = 0
  · rw [if_pos h0] at hp
    obtain ⟨rfl, rfl⟩ := Prod.mk.inj hp
    have hd0 : ((b.size : Int) == 0) = true := by simp [h0]
    clear hp
    go_enter Try.func26, Try.ntmps26
    go_wp2_with fail
    refine (HR.out _ _ _ H.out).mono ?_
    rintro x w2 ⟨rfl, hs2, hg2⟩
    have HS2 := Lib.hid hs2
    clear hs2
    go_wp2
    go_ret
    exact ⟨rfl, ⟨by decide, _, HS2.out⟩, hg2⟩
  · rw [if_neg h0] at hp
    have hd0 : ((b.size : Int) == 0) = false := by rw [beq_eq_false_iff_ne]; omega
    have hb0 : 0 < b.size := by rcases Nat.eq_zero_or_pos b.size with h | h; exact absurd h h0; exact h
    have hix0 := fun W => idx_str (P := Try.prog) 9 Try.underlying9 b 0 0 rfl hb0 W
    by_cases h1 : bat b 0 ≠ letter
    · rw [if_pos h1] at hp
      obtain ⟨rfl, rfl⟩ := Prod.mk.inj hp
      have hd1 : (bat b 0 != letter) = true := by simpa using h1
      clear hp
      go_enter Try.func26, Try.ntmps26
      go_wp2_with fail
      refine (HR.out _ _ _ H.out).mono ?_
      rintro x w2 ⟨rfl, hs2, hg2⟩
      have HS2 := Lib.hid hs2
      clear hs2
      go_wp2
      go_ret
      exact ⟨rfl, ⟨by decide, _, HS2.out⟩, hg2⟩
    · rw [if_neg h1] at hp
      have hd1 : (bat b 0 != letter) = false := by simpa using h1
      by_cases h2 : b.size = 1
      · rw [if_pos h2] at hp
        obtain ⟨rfl, rfl⟩ := Prod.mk.inj hp
        have hd2 : ((b.size : Int) == 1) = true := by simp [h2]
        clear hp
        go_enter Try.func26, Try.ntmps26
        go_wp2_with fail
        refine (HR.out _ _ _ H.out).mono ?_
        rintro x w2 ⟨rfl, hs2, hg2⟩
        have HS2 := Lib.hid hs2
        clear hs2
        go_wp2
        go_ret
        exact ⟨rfl, ⟨by decide, _, HS2.out⟩, hg2⟩
      · rw [if_neg h2] at hp
        have hd2 : ((b.size : Int) == 1) = false := by rw [beq_eq_false_iff_ne]; omega
        have hix1 := fun W => idx_str (P := Try.prog) 9 Try.underlying9 b 1 1 rfl (by omega) W
        have hbl := bat_lt b 1
        obtain ⟨c, hc⟩ : ∃ c, bat b 1 = c := ⟨_, rfl⟩
        rw [hc] at hbl hp
        simp only [hc] at hix1
        have hwc : IntKind.i64.wrap c = c := by rw [IntKind.wrap_i64]; omega
        clear hc
        by_cases h3 : c < 1 ∨ 9 < c
        · rw [if_pos h3] at hp
          obtain ⟨rfl, rfl⟩ := Prod.mk.inj hp
          clear hp
          by_cases h4 : c < 1
          · have hd4 : decide (c < 1) = true := by simpa using h4
            go_enter Try.func26, Try.ntmps26
            go_wp2_with fail
            refine (HR.out _ _ _ H.out).mono ?_
            rintro x w2 ⟨rfl, hs2, hg2⟩
            have HS2 := Lib.hid hs2
            clear hs2
            go_wp2
            go_ret
            exact ⟨rfl, ⟨by decide, _, HS2.out⟩, hg2⟩
          · have hd4 : decide (c < 1) = false := by simpa using h4
            have hd5 : decide (9 < c) = true := by simp; omega
            go_enter Try.func26, Try.ntmps26
            go_wp2_with fail
            refine (HR.out _ _ _ H.out).mono ?_
            rintro x w2 ⟨rfl, hs2, hg2⟩
            have HS2 := Lib.hid hs2
            clear hs2
            go_wp2
            go_ret
            exact ⟨rfl, ⟨by decide, _, HS2.out⟩, hg2⟩
        · rw [if_neg h3] at hp
          obtain ⟨rfl, rfl⟩ := Prod.mk.inj hp
          have hd4 : decide (c < 1) = false := by simp; omega
          have hd5 : decide (9 < c) = false := by simp; omega
          have HS5 := Lib.hid (H.out.set1 2)
          have HG5 := Lib.hid (grown_set (grown_refl w (some r)) 1 (.int .i64 2))
          clear hp h3
          go_enter Try.func26, Try.ntmps26
          go_wp2
          go_ret
          exact ⟨rfl, ⟨by omega, HS5.out⟩, HG5.out⟩

def nm (op : Int) : Bool × Bool × Bool × Bool := (op == 1 || op == 2 || op == 3, op == 1 || op == 4 || op == 5, op == 4, op == 5)
theorem names_calls (op : Int) (w : World) : Calls Try.prog 27 #[.int .i64 op] w fun x w' => x = .returned (.tuple #[.bool (nm op).1, .bool (nm op).2.1, .bool (nm op).2.2.1, .bool (nm op).2.2.2]) ∧ w' = w := by
  unfold nm
  by_cases h1 : op = 1
  · subst h1
    go_enter Try.func27, Try.ntmps27
    go_wp2
    refine bodyPost_ret (results_tmp4 rfl _ _ _) rfl ?_
    exact ⟨rfl, rfl⟩
  · have e1 : (op == 1) = false := by rw [beq_eq_false_iff_ne]; exact h1
    by_cases h2 : op = 2
    · subst h2
      go_enter Try.func27, Try.ntmps27
      go_wp2
      refine bodyPost_ret (results_tmp4 rfl _ _ _) rfl ?_
      exact ⟨rfl, rfl⟩
    · have e2 : (op == 2) = false := by rw [beq_eq_false_iff_ne]; exact h2
      by_cases h4 : op = 4
      · subst h4
        go_enter Try.func27, Try.ntmps27
        go_wp2
        refine bodyPost_ret (results_tmp4 rfl _ _ _) rfl ?_
        exact ⟨rfl, rfl⟩
      · have e4 : (op == 4) = false := by rw [beq_eq_false_iff_ne]; exact h4
        clear h1 h2 h4
        generalize e3 : (op == 3) = b3
        generalize e5 : (op == 5) = b5
        simp only [e1, e2, e4, Bool.false_or]
        go_enter Try.func27, Try.ntmps27
        go_wp2
        refine bodyPost_ret (results_tmp4 rfl _ _ _) rfl ?_
        exact ⟨rfl, rfl⟩


theorem prepR (w : World) (b : ByteArray) : ∃ W, (w.alloc (.cells #[.int .i64 0, .int .i64 0, .string ⟨#[]⟩, .int .i64 0, .int .i64 0] 24)).alloc (.cells #[.string b, .int .i64 0, .int .i64 0] 74) = W ∧ W.heap.size = w.heap.size + 1 + 1 ∧ Rd W 74 (w.heap.size + 1) b (Except.ok 0) ∧ Rq W w.heap.size 0 0 ⟨#[]⟩ 0 0 ∧ Below w.heap.size w W := by
  refine ⟨_, rfl, by simp, ⟨Nat.zero_le _, ?_⟩, ?_, ((Below.refl _ w).alloc (Nat.le_refl _) _).alloc (by simp) _⟩
  · have e : ∀ o, (w.alloc o).heap.size = w.heap.size + 1 := fun o => by simp
    have := heap_alloc_last (w.alloc (.cells #[.int .i64 0, .int .i64 0, .string ⟨#[]⟩, .int .i64 0, .int .i64 0] 24)) (.cells #[.string b, .int .i64 0, .int .i64 0] 74)
    rw [e] at this
    exact this
  · exact (Below.heap_alloc _ _ _ (by simp)).trans (heap_alloc_last w _)

set_option maxRecDepth 100000 in
set_option maxHeartbeats 1000000 in
theorem rasked_1 (b : ByteArray) (hb : b.size ≤ 4611686018427387904) (op : Int) (hop : hdv b 81 = op) (hnm : nm op = (true, true, false, false)) (w : World) :
    Calls Try.prog 12 #[.string b] w fun x w' => x = .returned (.tuple #[.agg (if pEnd b (ask1 b (hd2 b 81)).1 = 0 then rqC op (ask1 b (hd2 b 81)).2.1 (ask1 b (hd2 b 81)).2.2.1 (ask1 b (hd2 b 81)).2.2.2.1 (ask1 b (hd2 b 81)).2.2.2.2 else rqC 0 0 ⟨#[]⟩ 0 0), .int .i64 (pEnd b (ask1 b (hd2 b 81)).1)]) ∧ Below w.heap.size w w' := by
  have hbu1 : ∀ W : World, (Instr.build 74 #[(0, .string b)]).run Try.prog W = .ok (.agg #[.string b, .int .i64 0, .int .i64 0]) W := fun W => run_build W _ _ _ (by kernel_rfl)
  have hbu2 : ∀ (W : World) (z : Int), (Instr.build 24 #[(0, .int .i64 z)]).run Try.prog W = .ok (.agg #[.int .i64 z, .int .i64 0, .string ⟨#[]⟩, .int .i64 0, .int .i64 0]) W := fun W z => run_build W _ _ _ (by kernel_rfl)
  have hbu3 : ∀ W : World, (Instr.build 24 #[]).run Try.prog W = .ok (.agg #[.int .i64 0, .int .i64 0, .string ⟨#[]⟩, .int .i64 0, .int .i64 0]) W := fun W => run_build W _ _ _ (by kernel_rfl)
  have C := Lib.hid (fun r W h => begun_calls 81 r b hb W h)
  have N := Lib.hid (fun W => names_calls op W)
  rw [hop] at C
  rw [hnm] at N
  unfold ask1
  unfold aNum
  simp only
  have E0 := fun s => Lib.hid (fun r W h => ended_calls r b hb s W h)
  have D0 := fun s => Lib.hid (fun r W h => rany_calls r b hb s W h)
  have T0 := fun s => Lib.hid (fun r W h => rtext_calls r b hb s W h)
  generalize hd2 b 81 = s0 at C ⊢
  have D1 := D0 s0
  generalize pNum b 9223372036854775807 13 s0 = p1 at D1 ⊢
  have D2 := T0 p1.1
  generalize pText b p1.1 = p2 at D2 ⊢
  have E := E0 p2.1
  clear E0 D0 T0
  generalize hen : pEnd b p2.1 = en at E ⊢
  unfold rqC
  obtain ⟨ag, hag⟩ : ∃ ag, (if en = 0 then (#[.int .i64 op, .int .i64 p1.2, .string p2.2, .int .i64 0, .int .i64 0] : Array Value) else #[.int .i64 0, .int .i64 0, .string ⟨#[]⟩, .int .i64 0, .int .i64 0]) = ag := ⟨_, rfl⟩
  rw [hag]
  have HAG := Lib.hid hag
  clear hop hnm hen hag
  go_enter Try.func12, Try.ntmps12
  go_wp2_with fail
  obtain ⟨W, hW, hz, hRd, hRq, hBl⟩ := prepR w b
  rw [hW]
  clear hW
  refine (C.out _ _ hRd).mono ?_
  rintro x w1 ⟨rfl, hs, hg1⟩
  have HRq := Lib.hid (hRq.of (grown_heap hg1 (by omega) (by omega)))
  have HBl := Lib.hid (grown_below hBl hg1 (by omega) (fun k h => by cases h; omega))
  have hsz : W.heap.size ≤ w1.heap.size := hg1.size
  have HS := Lib.hid hs
  clear hs hRq hBl hg1 hRd
  go_wp2_with fail
  refine (N.out _).mono ?_
  rintro x y ⟨rfl, rfl⟩
  have HQ := Lib.hid (Rq.new w1 op 0 ⟨#[]⟩ 0 0)
  have HS2 := Lib.hid (HS.out.alloc (.cells #[.int .i64 op, .int .i64 0, .string ⟨#[]⟩, .int .i64 0, .int .i64 0] 24))
  have HRq2 := Lib.hid (HRq.out.alloc (.cells #[.int .i64 op, .int .i64 0, .string ⟨#[]⟩, .int .i64 0, .int .i64 0] 24))
  have HBl2 := Lib.hid (HBl.out.alloc (by omega) (.cells #[.int .i64 op, .int .i64 0, .string ⟨#[]⟩, .int .i64 0, .int .i64 0] 24))
  obtain ⟨Q, hQ⟩ : ∃ Q, w1.heap.size = Q := ⟨_, rfl⟩
  have hsz2 : w1.heap.size < (w1.alloc (.cells #[.int .i64 op, .int .i64 0, .string ⟨#[]⟩, .int .i64 0, .int .i64 0] 24)).heap.size := by simp
  generalize w1.alloc (.cells #[.int .i64 op, .int .i64 0, .string ⟨#[]⟩, .int .i64 0, .int .i64 0] 24) = v0 at HQ HS2 HRq2 HBl2 hsz2 ⊢
  rw [hQ] at HQ hsz hsz2 ⊢
  have hQp : Q ≠ w.heap.size := by omega
  have hQr : Q ≠ w.heap.size + 1 := by omega
  have HSd0 := Lib.hid HS2.out
  have HQd0 := Lib.hid HQ.out
  have HPd0 := Lib.hid HRq2.out
  have HBd0 := Lib.hid HBl2.out
  clear HS HRq HBl HQ HS2 HRq2 HBl2
  go_wp2_with fail
  refine (D1.out _ _ HSd0.out).mono ?_
  rintro x u1 ⟨rfl, k1, k2⟩
  have hq1 := HQd0.out.of (grown_heap k2 HQd0.out.lt hQr)
  have hp1 := HPd0.out.of (grown_heap k2 HPd0.out.lt (by omega))
  have hb1 := grown_below HBd0.out k2 (by have := HSd0.out.lt; omega) (fun k h => by cases h; omega)
  obtain ⟨q0, q1, q2, q3, q4, qf⟩ := hq1.cells
  have qfj := qf 1
  have HSd1 := Lib.hid (k1.set hQr 1 (.int .i64 p1.2))
  have HQd1 := Lib.hid (hq1.set1 p1.2)
  have HPd1 := Lib.hid (hp1.of (Below.heap_setCell _ ⟨Q, 1, none⟩ (.int .i64 p1.2) _ (fun e => hQp e.symm)))
  have HBd1 := Lib.hid (hb1.setCell (p := ⟨Q, 1, none⟩) (by show _ ≤ Q; omega) (.int .i64 p1.2))
  clear hq1 hp1 hb1 k1 k2 qf
  go_wp2_with fail
  refine (D2.out _ _ HSd1.out).mono ?_
  rintro x u2 ⟨rfl, k1, k2⟩
  have hq2 := HQd1.out.of (grown_heap k2 HQd1.out.lt hQr)
  have hp2 := HPd1.out.of (grown_heap k2 HPd1.out.lt (by omega))
  have hb2 := grown_below HBd1.out k2 (by have := HSd1.out.lt; omega) (fun k h => by cases h; omega)
  obtain ⟨q0, q1, q2, q3, q4, qf⟩ := hq2.cells
  have qfj := qf 2
  have HSd2 := Lib.hid (k1.set hQr 2 (.string p2.2))
  have HQd2 := Lib.hid (hq2.set2 p2.2)
  have HPd2 := Lib.hid (hp2.of (Below.heap_setCell _ ⟨Q, 2, none⟩ (.string p2.2) _ (fun e => hQp e.symm)))
  have HBd2 := Lib.hid (hb2.setCell (p := ⟨Q, 2, none⟩) (by show _ ≤ Q; omega) (.string p2.2))
  clear hq2 hp2 hb2 k1 k2 qf
  go_wp2_with fail
  refine (E.out _ _ HSd2.out).mono ?_
  rintro x w5 ⟨rfl, hg5⟩
  have HP5 := Lib.hid (HPd2.out.of (grown_heap hg5 HPd2.out.lt (by omega)))
  have HQ5 := Lib.hid (HQd2.out.of (grown_heap hg5 HQd2.out.lt hQr))
  have HB5 := Lib.hid (grown_below HBd2.out hg5 (by have := HSd2.out.lt; omega) (fun k h => by cases h; omega))
  clear hg5
  clear q0 q1 q2 q3 q4 qfj
  obtain ⟨g0, g1, g2, g3, g4, pf⟩ := HP5.out.cells
  obtain ⟨q0, q1, q2, q3, q4, qf⟩ := HQ5.out.cells
  have f0 := pf 0
  have f1 := pf 1
  have f2 := pf 2
  have f3 := pf 3
  have f4 := pf 4
  clear pf qf
  by_cases h0 : en = 0
  · subst h0
    have hag := HAG.out
    rw [if_pos rfl] at hag
    subst hag
    go_wp2
    have hbl := below_five HB5.out (Nat.le_refl _) (.int .i64 op) (.int .i64 p1.2) (.string p2.2) (.int .i64 0) (.int .i64 0)
    refine bodyPost_ret (v := .tuple #[.agg #[.int .i64 op, .int .i64 p1.2, .string p2.2, .int .i64 0, .int .i64 0], .int .i64 0]) ?_ rfl ⟨rfl, hbl⟩
    rw [results_cell_tmp rfl]
    go_simp
  · have hag := HAG.out
    rw [if_neg h0] at hag
    subst hag
    have h1 : (en == 0) = false := by rw [beq_eq_false_iff_ne]; exact h0
    clear h0
    go_wp2
    have hbl := below_five HB5.out (Nat.le_refl _) (.int .i64 0) (.int .i64 0) (.string ⟨#[]⟩) (.int .i64 0) (.int .i64 0)
    refine bodyPost_ret (v := .tuple #[.agg #[.int .i64 0, .int .i64 0, .string ⟨#[]⟩, .int .i64 0, .int .i64 0], .int .i64 en]) ?_ rfl ⟨rfl, hbl⟩
    rw [results_cell_tmp rfl]
    go_simp
set_option maxRecDepth 100000 in
set_option maxHeartbeats 1000000 in
theorem rasked_2 (b : ByteArray) (hb : b.size ≤ 4611686018427387904) (op : Int) (hop : hdv b 81 = op) (hnm : nm op = (true, false, false, false)) (w : World) :
    Calls Try.prog 12 #[.string b] w fun x w' => x = .returned (.tuple #[.agg (if pEnd b (ask2 b (hd2 b 81)).1 = 0 then rqC op (ask2 b (hd2 b 81)).2.1 (ask2 b (hd2 b 81)).2.2.1 (ask2 b (hd2 b 81)).2.2.2.1 (ask2 b (hd2 b 81)).2.2.2.2 else rqC 0 0 ⟨#[]⟩ 0 0), .int .i64 (pEnd b (ask2 b (hd2 b 81)).1)]) ∧ Below w.heap.size w w' := by
  have hbu1 : ∀ W : World, (Instr.build 74 #[(0, .string b)]).run Try.prog W = .ok (.agg #[.string b, .int .i64 0, .int .i64 0]) W := fun W => run_build W _ _ _ (by kernel_rfl)
  have hbu2 : ∀ (W : World) (z : Int), (Instr.build 24 #[(0, .int .i64 z)]).run Try.prog W = .ok (.agg #[.int .i64 z, .int .i64 0, .string ⟨#[]⟩, .int .i64 0, .int .i64 0]) W := fun W z => run_build W _ _ _ (by kernel_rfl)
  have hbu3 : ∀ W : World, (Instr.build 24 #[]).run Try.prog W = .ok (.agg #[.int .i64 0, .int .i64 0, .string ⟨#[]⟩, .int .i64 0, .int .i64 0]) W := fun W => run_build W _ _ _ (by kernel_rfl)
  have C := Lib.hid (fun r W h => begun_calls 81 r b hb W h)
  have N := Lib.hid (fun W => names_calls op W)
  rw [hop] at C
  rw [hnm] at N
  unfold ask2
  unfold aNum
  simp only
  have E0 := fun s => Lib.hid (fun r W h => ended_calls r b hb s W h)
  have D0 := fun s => Lib.hid (fun r W h => rany_calls r b hb s W h)
  have T0 := fun s => Lib.hid (fun r W h => rtext_calls r b hb s W h)
  generalize hd2 b 81 = s0 at C ⊢
  have D1 := D0 s0
  generalize pNum b 9223372036854775807 13 s0 = p1 at D1 ⊢
  have E := E0 p1.1
  clear E0 D0 T0
  generalize hen : pEnd b p1.1 = en at E ⊢
  unfold rqC
  obtain ⟨ag, hag⟩ : ∃ ag, (if en = 0 then (#[.int .i64 op, .int .i64 p1.2, .string ⟨#[]⟩, .int .i64 0, .int .i64 0] : Array Value) else #[.int .i64 0, .int .i64 0, .string ⟨#[]⟩, .int .i64 0, .int .i64 0]) = ag := ⟨_, rfl⟩
  rw [hag]
  have HAG := Lib.hid hag
  clear hop hnm hen hag
  go_enter Try.func12, Try.ntmps12
  go_wp2_with fail
  obtain ⟨W, hW, hz, hRd, hRq, hBl⟩ := prepR w b
  rw [hW]
  clear hW
  refine (C.out _ _ hRd).mono ?_
  rintro x w1 ⟨rfl, hs, hg1⟩
  have HRq := Lib.hid (hRq.of (grown_heap hg1 (by omega) (by omega)))
  have HBl := Lib.hid (grown_below hBl hg1 (by omega) (fun k h => by cases h; omega))
  have hsz : W.heap.size ≤ w1.heap.size := hg1.size
  have HS := Lib.hid hs
  clear hs hRq hBl hg1 hRd
  go_wp2_with fail
  refine (N.out _).mono ?_
  rintro x y ⟨rfl, rfl⟩
  have HQ := Lib.hid (Rq.new w1 op 0 ⟨#[]⟩ 0 0)
  have HS2 := Lib.hid (HS.out.alloc (.cells #[.int .i64 op, .int .i64 0, .string ⟨#[]⟩, .int .i64 0, .int .i64 0] 24))
  have HRq2 := Lib.hid (HRq.out.alloc (.cells #[.int .i64 op, .int .i64 0, .string ⟨#[]⟩, .int .i64 0, .int .i64 0] 24))
  have HBl2 := Lib.hid (HBl.out.alloc (by omega) (.cells #[.int .i64 op, .int .i64 0, .string ⟨#[]⟩, .int .i64 0, .int .i64 0] 24))
  obtain ⟨Q, hQ⟩ : ∃ Q, w1.heap.size = Q := ⟨_, rfl⟩
  have hsz2 : w1.heap.size < (w1.alloc (.cells #[.int .i64 op, .int .i64 0, .string ⟨#[]⟩, .int .i64 0, .int .i64 0] 24)).heap.size := by simp
  generalize w1.alloc (.cells #[.int .i64 op, .int .i64 0, .string ⟨#[]⟩, .int .i64 0, .int .i64 0] 24) = v0 at HQ HS2 HRq2 HBl2 hsz2 ⊢
  rw [hQ] at HQ hsz hsz2 ⊢
  have hQp : Q ≠ w.heap.size := by omega
  have hQr : Q ≠ w.heap.size + 1 := by omega
  have HSd0 := Lib.hid HS2.out
  have HQd0 := Lib.hid HQ.out
  have HPd0 := Lib.hid HRq2.out
  have HBd0 := Lib.hid HBl2.out
  clear HS HRq HBl HQ HS2 HRq2 HBl2
  go_wp2_with fail
  refine (D1.out _ _ HSd0.out).mono ?_
  rintro x u1 ⟨rfl, k1, k2⟩
  have hq1 := HQd0.out.of (grown_heap k2 HQd0.out.lt hQr)
  have hp1 := HPd0.out.of (grown_heap k2 HPd0.out.lt (by omega))
  have hb1 := grown_below HBd0.out k2 (by have := HSd0.out.lt; omega) (fun k h => by cases h; omega)
  obtain ⟨q0, q1, q2, q3, q4, qf⟩ := hq1.cells
  have qfj := qf 1
  have HSd1 := Lib.hid (k1.set hQr 1 (.int .i64 p1.2))
  have HQd1 := Lib.hid (hq1.set1 p1.2)
  have HPd1 := Lib.hid (hp1.of (Below.heap_setCell _ ⟨Q, 1, none⟩ (.int .i64 p1.2) _ (fun e => hQp e.symm)))
  have HBd1 := Lib.hid (hb1.setCell (p := ⟨Q, 1, none⟩) (by show _ ≤ Q; omega) (.int .i64 p1.2))
  clear hq1 hp1 hb1 k1 k2 qf
  go_wp2_with fail
  refine (E.out _ _ HSd1.out).mono ?_
  rintro x w5 ⟨rfl, hg5⟩
  have HP5 := Lib.hid (HPd1.out.of (grown_heap hg5 HPd1.out.lt (by omega)))
  have HQ5 := Lib.hid (HQd1.out.of (grown_heap hg5 HQd1.out.lt hQr))
  have HB5 := Lib.hid (grown_below HBd1.out hg5 (by have := HSd1.out.lt; omega) (fun k h => by cases h; omega))
  clear hg5
  clear q0 q1 q2 q3 q4 qfj
  obtain ⟨g0, g1, g2, g3, g4, pf⟩ := HP5.out.cells
  obtain ⟨q0, q1, q2, q3, q4, qf⟩ := HQ5.out.cells
  have f0 := pf 0
  have f1 := pf 1
  have f2 := pf 2
  have f3 := pf 3
  have f4 := pf 4
  clear pf qf
  by_cases h0 : en = 0
  · subst h0
    have hag := HAG.out
    rw [if_pos rfl] at hag
    subst hag
    go_wp2
    have hbl := below_five HB5.out (Nat.le_refl _) (.int .i64 op) (.int .i64 p1.2) (.string ⟨#[]⟩) (.int .i64 0) (.int .i64 0)
    refine bodyPost_ret (v := .tuple #[.agg #[.int .i64 op, .int .i64 p1.2, .string ⟨#[]⟩, .int .i64 0, .int .i64 0], .int .i64 0]) ?_ rfl ⟨rfl, hbl⟩
    rw [results_cell_tmp rfl]
    go_simp
  · have hag := HAG.out
    rw [if_neg h0] at hag
    subst hag
    have h1 : (en == 0) = false := by rw [beq_eq_false_iff_ne]; exact h0
    clear h0
    go_wp2
    have hbl := below_five HB5.out (Nat.le_refl _) (.int .i64 0) (.int .i64 0) (.string ⟨#[]⟩) (.int .i64 0) (.int .i64 0)
    refine bodyPost_ret (v := .tuple #[.agg #[.int .i64 0, .int .i64 0, .string ⟨#[]⟩, .int .i64 0, .int .i64 0], .int .i64 en]) ?_ rfl ⟨rfl, hbl⟩
    rw [results_cell_tmp rfl]
    go_simp
set_option maxRecDepth 100000 in
set_option maxHeartbeats 1000000 in
theorem rasked_4 (b : ByteArray) (hb : b.size ≤ 4611686018427387904) (op : Int) (hop : hdv b 81 = op) (hnm : nm op = (false, true, true, false)) (w : World) :
    Calls Try.prog 12 #[.string b] w fun x w' => x = .returned (.tuple #[.agg (if pEnd b (ask4 b (hd2 b 81)).1 = 0 then rqC op (ask4 b (hd2 b 81)).2.1 (ask4 b (hd2 b 81)).2.2.1 (ask4 b (hd2 b 81)).2.2.2.1 (ask4 b (hd2 b 81)).2.2.2.2 else rqC 0 0 ⟨#[]⟩ 0 0), .int .i64 (pEnd b (ask4 b (hd2 b 81)).1)]) ∧ Below w.heap.size w w' := by
  have hbu1 : ∀ W : World, (Instr.build 74 #[(0, .string b)]).run Try.prog W = .ok (.agg #[.string b, .int .i64 0, .int .i64 0]) W := fun W => run_build W _ _ _ (by kernel_rfl)
  have hbu2 : ∀ (W : World) (z : Int), (Instr.build 24 #[(0, .int .i64 z)]).run Try.prog W = .ok (.agg #[.int .i64 z, .int .i64 0, .string ⟨#[]⟩, .int .i64 0, .int .i64 0]) W := fun W z => run_build W _ _ _ (by kernel_rfl)
  have hbu3 : ∀ W : World, (Instr.build 24 #[]).run Try.prog W = .ok (.agg #[.int .i64 0, .int .i64 0, .string ⟨#[]⟩, .int .i64 0, .int .i64 0]) W := fun W => run_build W _ _ _ (by kernel_rfl)
  have C := Lib.hid (fun r W h => begun_calls 81 r b hb W h)
  have N := Lib.hid (fun W => names_calls op W)
  rw [hop] at C
  rw [hnm] at N
  unfold ask4
  unfold aNum
  simp only
  have E0 := fun s => Lib.hid (fun r W h => ended_calls r b hb s W h)
  have D0 := fun s => Lib.hid (fun r W h => rany_calls r b hb s W h)
  have T0 := fun s => Lib.hid (fun r W h => rtext_calls r b hb s W h)
  generalize hd2 b 81 = s0 at C ⊢
  have D1 := T0 s0
  generalize pText b s0 = p1 at D1 ⊢
  have D2 := D0 p1.1
  generalize pNum b 9223372036854775807 13 p1.1 = p2 at D2 ⊢
  have E := E0 p2.1
  clear E0 D0 T0
  generalize hen : pEnd b p2.1 = en at E ⊢
  unfold rqC
  obtain ⟨ag, hag⟩ : ∃ ag, (if en = 0 then (#[.int .i64 op, .int .i64 0, .string p1.2, .int .i64 p2.2, .int .i64 0] : Array Value) else #[.int .i64 0, .int .i64 0, .string ⟨#[]⟩, .int .i64 0, .int .i64 0]) = ag := ⟨_, rfl⟩
  rw [hag]
  have HAG := Lib.hid hag
  clear hop hnm hen hag
  go_enter Try.func12, Try.ntmps12
  go_wp2_with fail
  obtain ⟨W, hW, hz, hRd, hRq, hBl⟩ := prepR w b
  rw [hW]
  clear hW
  refine (C.out _ _ hRd).mono ?_
  rintro x w1 ⟨rfl, hs, hg1⟩
  have HRq := Lib.hid (hRq.of (grown_heap hg1 (by omega) (by omega)))
  have HBl := Lib.hid (grown_below hBl hg1 (by omega) (fun k h => by cases h; omega))
  have hsz : W.heap.size ≤ w1.heap.size := hg1.size
  have HS := Lib.hid hs
  clear hs hRq hBl hg1 hRd
  go_wp2_with fail
  refine (N.out _).mono ?_
  rintro x y ⟨rfl, rfl⟩
  have HQ := Lib.hid (Rq.new w1 op 0 ⟨#[]⟩ 0 0)
  have HS2 := Lib.hid (HS.out.alloc (.cells #[.int .i64 op, .int .i64 0, .string ⟨#[]⟩, .int .i64 0, .int .i64 0] 24))
  have HRq2 := Lib.hid (HRq.out.alloc (.cells #[.int .i64 op, .int .i64 0, .string ⟨#[]⟩, .int .i64 0, .int .i64 0] 24))
  have HBl2 := Lib.hid (HBl.out.alloc (by omega) (.cells #[.int .i64 op, .int .i64 0, .string ⟨#[]⟩, .int .i64 0, .int .i64 0] 24))
  obtain ⟨Q, hQ⟩ : ∃ Q, w1.heap.size = Q := ⟨_, rfl⟩
  have hsz2 : w1.heap.size < (w1.alloc (.cells #[.int .i64 op, .int .i64 0, .string ⟨#[]⟩, .int .i64 0, .int .i64 0] 24)).heap.size := by simp
  generalize w1.alloc (.cells #[.int .i64 op, .int .i64 0, .string ⟨#[]⟩, .int .i64 0, .int .i64 0] 24) = v0 at HQ HS2 HRq2 HBl2 hsz2 ⊢
  rw [hQ] at HQ hsz hsz2 ⊢
  have hQp : Q ≠ w.heap.size := by omega
  have hQr : Q ≠ w.heap.size + 1 := by omega
  have HSd0 := Lib.hid HS2.out
  have HQd0 := Lib.hid HQ.out
  have HPd0 := Lib.hid HRq2.out
  have HBd0 := Lib.hid HBl2.out
  clear HS HRq HBl HQ HS2 HRq2 HBl2
  go_wp2_with fail
  refine (D1.out _ _ HSd0.out).mono ?_
  rintro x u1 ⟨rfl, k1, k2⟩
  have hq1 := HQd0.out.of (grown_heap k2 HQd0.out.lt hQr)
  have hp1 := HPd0.out.of (grown_heap k2 HPd0.out.lt (by omega))
  have hb1 := grown_below HBd0.out k2 (by have := HSd0.out.lt; omega) (fun k h => by cases h; omega)
  obtain ⟨q0, q1, q2, q3, q4, qf⟩ := hq1.cells
  have qfj := qf 2
  have HSd1 := Lib.hid (k1.set hQr 2 (.string p1.2))
  have HQd1 := Lib.hid (hq1.set2 p1.2)
  have HPd1 := Lib.hid (hp1.of (Below.heap_setCell _ ⟨Q, 2, none⟩ (.string p1.2) _ (fun e => hQp e.symm)))
  have HBd1 := Lib.hid (hb1.setCell (p := ⟨Q, 2, none⟩) (by show _ ≤ Q; omega) (.string p1.2))
  clear hq1 hp1 hb1 k1 k2 qf
  go_wp2_with fail
  refine (D2.out _ _ HSd1.out).mono ?_
  rintro x u2 ⟨rfl, k1, k2⟩
  have hq2 := HQd1.out.of (grown_heap k2 HQd1.out.lt hQr)
  have hp2 := HPd1.out.of (grown_heap k2 HPd1.out.lt (by omega))
  have hb2 := grown_below HBd1.out k2 (by have := HSd1.out.lt; omega) (fun k h => by cases h; omega)
  obtain ⟨q0, q1, q2, q3, q4, qf⟩ := hq2.cells
  have qfj := qf 3
  have HSd2 := Lib.hid (k1.set hQr 3 (.int .i64 p2.2))
  have HQd2 := Lib.hid (hq2.set3 p2.2)
  have HPd2 := Lib.hid (hp2.of (Below.heap_setCell _ ⟨Q, 3, none⟩ (.int .i64 p2.2) _ (fun e => hQp e.symm)))
  have HBd2 := Lib.hid (hb2.setCell (p := ⟨Q, 3, none⟩) (by show _ ≤ Q; omega) (.int .i64 p2.2))
  clear hq2 hp2 hb2 k1 k2 qf
  go_wp2_with fail
  refine (E.out _ _ HSd2.out).mono ?_
  rintro x w5 ⟨rfl, hg5⟩
  have HP5 := Lib.hid (HPd2.out.of (grown_heap hg5 HPd2.out.lt (by omega)))
  have HQ5 := Lib.hid (HQd2.out.of (grown_heap hg5 HQd2.out.lt hQr))
  have HB5 := Lib.hid (grown_below HBd2.out hg5 (by have := HSd2.out.lt; omega) (fun k h => by cases h; omega))
  clear hg5
  clear q0 q1 q2 q3 q4 qfj
  obtain ⟨g0, g1, g2, g3, g4, pf⟩ := HP5.out.cells
  obtain ⟨q0, q1, q2, q3, q4, qf⟩ := HQ5.out.cells
  have f0 := pf 0
  have f1 := pf 1
  have f2 := pf 2
  have f3 := pf 3
  have f4 := pf 4
  clear pf qf
  by_cases h0 : en = 0
  · subst h0
    have hag := HAG.out
    rw [if_pos rfl] at hag
    subst hag
    go_wp2
    have hbl := below_five HB5.out (Nat.le_refl _) (.int .i64 op) (.int .i64 0) (.string p1.2) (.int .i64 p2.2) (.int .i64 0)
    refine bodyPost_ret (v := .tuple #[.agg #[.int .i64 op, .int .i64 0, .string p1.2, .int .i64 p2.2, .int .i64 0], .int .i64 0]) ?_ rfl ⟨rfl, hbl⟩
    rw [results_cell_tmp rfl]
    go_simp
  · have hag := HAG.out
    rw [if_neg h0] at hag
    subst hag
    have h1 : (en == 0) = false := by rw [beq_eq_false_iff_ne]; exact h0
    clear h0
    go_wp2
    have hbl := below_five HB5.out (Nat.le_refl _) (.int .i64 0) (.int .i64 0) (.string ⟨#[]⟩) (.int .i64 0) (.int .i64 0)
    refine bodyPost_ret (v := .tuple #[.agg #[.int .i64 0, .int .i64 0, .string ⟨#[]⟩, .int .i64 0, .int .i64 0], .int .i64 en]) ?_ rfl ⟨rfl, hbl⟩
    rw [results_cell_tmp rfl]
    go_simp
set_option maxRecDepth 100000 in
set_option maxHeartbeats 1000000 in
theorem rasked_5 (b : ByteArray) (hb : b.size ≤ 4611686018427387904) (op : Int) (hop : hdv b 81 = op) (hnm : nm op = (false, true, false, true)) (w : World) :
    Calls Try.prog 12 #[.string b] w fun x w' => x = .returned (.tuple #[.agg (if pEnd b (ask5 b (hd2 b 81)).1 = 0 then rqC op (ask5 b (hd2 b 81)).2.1 (ask5 b (hd2 b 81)).2.2.1 (ask5 b (hd2 b 81)).2.2.2.1 (ask5 b (hd2 b 81)).2.2.2.2 else rqC 0 0 ⟨#[]⟩ 0 0), .int .i64 (pEnd b (ask5 b (hd2 b 81)).1)]) ∧ Below w.heap.size w w' := by
  have hbu1 : ∀ W : World, (Instr.build 74 #[(0, .string b)]).run Try.prog W = .ok (.agg #[.string b, .int .i64 0, .int .i64 0]) W := fun W => run_build W _ _ _ (by kernel_rfl)
  have hbu2 : ∀ (W : World) (z : Int), (Instr.build 24 #[(0, .int .i64 z)]).run Try.prog W = .ok (.agg #[.int .i64 z, .int .i64 0, .string ⟨#[]⟩, .int .i64 0, .int .i64 0]) W := fun W z => run_build W _ _ _ (by kernel_rfl)
  have hbu3 : ∀ W : World, (Instr.build 24 #[]).run Try.prog W = .ok (.agg #[.int .i64 0, .int .i64 0, .string ⟨#[]⟩, .int .i64 0, .int .i64 0]) W := fun W => run_build W _ _ _ (by kernel_rfl)
  have C := Lib.hid (fun r W h => begun_calls 81 r b hb W h)
  have N := Lib.hid (fun W => names_calls op W)
  rw [hop] at C
  rw [hnm] at N
  unfold ask5
  unfold aNum
  simp only
  have E0 := fun s => Lib.hid (fun r W h => ended_calls r b hb s W h)
  have D0 := fun s => Lib.hid (fun r W h => rany_calls r b hb s W h)
  have T0 := fun s => Lib.hid (fun r W h => rtext_calls r b hb s W h)
  generalize hd2 b 81 = s0 at C ⊢
  have D1 := T0 s0
  generalize pText b s0 = p1 at D1 ⊢
  have D2 := D0 p1.1
  generalize pNum b 9223372036854775807 13 p1.1 = p2 at D2 ⊢
  have E := E0 p2.1
  clear E0 D0 T0
  generalize hen : pEnd b p2.1 = en at E ⊢
  unfold rqC
  obtain ⟨ag, hag⟩ : ∃ ag, (if en = 0 then (#[.int .i64 op, .int .i64 0, .string p1.2, .int .i64 0, .int .i64 p2.2] : Array Value) else #[.int .i64 0, .int .i64 0, .string ⟨#[]⟩, .int .i64 0, .int .i64 0]) = ag := ⟨_, rfl⟩
  rw [hag]
  have HAG := Lib.hid hag
  clear hop hnm hen hag
  go_enter Try.func12, Try.ntmps12
  go_wp2_with fail
  obtain ⟨W, hW, hz, hRd, hRq, hBl⟩ := prepR w b
  rw [hW]
  clear hW
  refine (C.out _ _ hRd).mono ?_
  rintro x w1 ⟨rfl, hs, hg1⟩
  have HRq := Lib.hid (hRq.of (grown_heap hg1 (by omega) (by omega)))
  have HBl := Lib.hid (grown_below hBl hg1 (by omega) (fun k h => by cases h; omega))
  have hsz : W.heap.size ≤ w1.heap.size := hg1.size
  have HS := Lib.hid hs
  clear hs hRq hBl hg1 hRd
  go_wp2_with fail
  refine (N.out _).mono ?_
  rintro x y ⟨rfl, rfl⟩
  have HQ := Lib.hid (Rq.new w1 op 0 ⟨#[]⟩ 0 0)
  have HS2 := Lib.hid (HS.out.alloc (.cells #[.int .i64 op, .int .i64 0, .string ⟨#[]⟩, .int .i64 0, .int .i64 0] 24))
  have HRq2 := Lib.hid (HRq.out.alloc (.cells #[.int .i64 op, .int .i64 0, .string ⟨#[]⟩, .int .i64 0, .int .i64 0] 24))
  have HBl2 := Lib.hid (HBl.out.alloc (by omega) (.cells #[.int .i64 op, .int .i64 0, .string ⟨#[]⟩, .int .i64 0, .int .i64 0] 24))
  obtain ⟨Q, hQ⟩ : ∃ Q, w1.heap.size = Q := ⟨_, rfl⟩
  have hsz2 : w1.heap.size < (w1.alloc (.cells #[.int .i64 op, .int .i64 0, .string ⟨#[]⟩, .int .i64 0, .int .i64 0] 24)).heap.size := by simp
  generalize w1.alloc (.cells #[.int .i64 op, .int .i64 0, .string ⟨#[]⟩, .int .i64 0, .int .i64 0] 24) = v0 at HQ HS2 HRq2 HBl2 hsz2 ⊢
  rw [hQ] at HQ hsz hsz2 ⊢
  have hQp : Q ≠ w.heap.size := by omega
  have hQr : Q ≠ w.heap.size + 1 := by omega
  have HSd0 := Lib.hid HS2.out
  have HQd0 := Lib.hid HQ.out
  have HPd0 := Lib.hid HRq2.out
  have HBd0 := Lib.hid HBl2.out
  clear HS HRq HBl HQ HS2 HRq2 HBl2
  go_wp2_with fail
  refine (D1.out _ _ HSd0.out).mono ?_
  rintro x u1 ⟨rfl, k1, k2⟩
  have hq1 := HQd0.out.of (grown_heap k2 HQd0.out.lt hQr)
  have hp1 := HPd0.out.of (grown_heap k2 HPd0.out.lt (by omega))
  have hb1 := grown_below HBd0.out k2 (by have := HSd0.out.lt; omega) (fun k h => by cases h; omega)
  obtain ⟨q0, q1, q2, q3, q4, qf⟩ := hq1.cells
  have qfj := qf 2
  have HSd1 := Lib.hid (k1.set hQr 2 (.string p1.2))
  have HQd1 := Lib.hid (hq1.set2 p1.2)
  have HPd1 := Lib.hid (hp1.of (Below.heap_setCell _ ⟨Q, 2, none⟩ (.string p1.2) _ (fun e => hQp e.symm)))
  have HBd1 := Lib.hid (hb1.setCell (p := ⟨Q, 2, none⟩) (by show _ ≤ Q; omega) (.string p1.2))
  clear hq1 hp1 hb1 k1 k2 qf
  go_wp2_with fail
  refine (D2.out _ _ HSd1.out).mono ?_
  rintro x u2 ⟨rfl, k1, k2⟩
  have hq2 := HQd1.out.of (grown_heap k2 HQd1.out.lt hQr)
  have hp2 := HPd1.out.of (grown_heap k2 HPd1.out.lt (by omega))
  have hb2 := grown_below HBd1.out k2 (by have := HSd1.out.lt; omega) (fun k h => by cases h; omega)
  obtain ⟨q0, q1, q2, q3, q4, qf⟩ := hq2.cells
  have qfj := qf 4
  have HSd2 := Lib.hid (k1.set hQr 4 (.int .i64 p2.2))
  have HQd2 := Lib.hid (hq2.set4 p2.2)
  have HPd2 := Lib.hid (hp2.of (Below.heap_setCell _ ⟨Q, 4, none⟩ (.int .i64 p2.2) _ (fun e => hQp e.symm)))
  have HBd2 := Lib.hid (hb2.setCell (p := ⟨Q, 4, none⟩) (by show _ ≤ Q; omega) (.int .i64 p2.2))
  clear hq2 hp2 hb2 k1 k2 qf
  go_wp2_with fail
  refine (E.out _ _ HSd2.out).mono ?_
  rintro x w5 ⟨rfl, hg5⟩
  have HP5 := Lib.hid (HPd2.out.of (grown_heap hg5 HPd2.out.lt (by omega)))
  have HQ5 := Lib.hid (HQd2.out.of (grown_heap hg5 HQd2.out.lt hQr))
  have HB5 := Lib.hid (grown_below HBd2.out hg5 (by have := HSd2.out.lt; omega) (fun k h => by cases h; omega))
  clear hg5
  clear q0 q1 q2 q3 q4 qfj
  obtain ⟨g0, g1, g2, g3, g4, pf⟩ := HP5.out.cells
  obtain ⟨q0, q1, q2, q3, q4, qf⟩ := HQ5.out.cells
  have f0 := pf 0
  have f1 := pf 1
  have f2 := pf 2
  have f3 := pf 3
  have f4 := pf 4
  clear pf qf
  by_cases h0 : en = 0
  · subst h0
    have hag := HAG.out
    rw [if_pos rfl] at hag
    subst hag
    go_wp2
    have hbl := below_five HB5.out (Nat.le_refl _) (.int .i64 op) (.int .i64 0) (.string p1.2) (.int .i64 0) (.int .i64 p2.2)
    refine bodyPost_ret (v := .tuple #[.agg #[.int .i64 op, .int .i64 0, .string p1.2, .int .i64 0, .int .i64 p2.2], .int .i64 0]) ?_ rfl ⟨rfl, hbl⟩
    rw [results_cell_tmp rfl]
    go_simp
  · have hag := HAG.out
    rw [if_neg h0] at hag
    subst hag
    have h1 : (en == 0) = false := by rw [beq_eq_false_iff_ne]; exact h0
    clear h0
    go_wp2
    have hbl := below_five HB5.out (Nat.le_refl _) (.int .i64 0) (.int .i64 0) (.string ⟨#[]⟩) (.int .i64 0) (.int .i64 0)
    refine bodyPost_ret (v := .tuple #[.agg #[.int .i64 0, .int .i64 0, .string ⟨#[]⟩, .int .i64 0, .int .i64 0], .int .i64 en]) ?_ rfl ⟨rfl, hbl⟩
    rw [results_cell_tmp rfl]
    go_simp
set_option maxRecDepth 100000 in
set_option maxHeartbeats 1000000 in
theorem rasked_6 (b : ByteArray) (hb : b.size ≤ 4611686018427387904) (op : Int) (hop : hdv b 81 = op) (hnm : nm op = (false, false, false, false)) (w : World) :
    Calls Try.prog 12 #[.string b] w fun x w' => x = .returned (.tuple #[.agg (if pEnd b (ask6 b (hd2 b 81)).1 = 0 then rqC op (ask6 b (hd2 b 81)).2.1 (ask6 b (hd2 b 81)).2.2.1 (ask6 b (hd2 b 81)).2.2.2.1 (ask6 b (hd2 b 81)).2.2.2.2 else rqC 0 0 ⟨#[]⟩ 0 0), .int .i64 (pEnd b (ask6 b (hd2 b 81)).1)]) ∧ Below w.heap.size w w' := by
  have hbu1 : ∀ W : World, (Instr.build 74 #[(0, .string b)]).run Try.prog W = .ok (.agg #[.string b, .int .i64 0, .int .i64 0]) W := fun W => run_build W _ _ _ (by kernel_rfl)
  have hbu2 : ∀ (W : World) (z : Int), (Instr.build 24 #[(0, .int .i64 z)]).run Try.prog W = .ok (.agg #[.int .i64 z, .int .i64 0, .string ⟨#[]⟩, .int .i64 0, .int .i64 0]) W := fun W z => run_build W _ _ _ (by kernel_rfl)
  have hbu3 : ∀ W : World, (Instr.build 24 #[]).run Try.prog W = .ok (.agg #[.int .i64 0, .int .i64 0, .string ⟨#[]⟩, .int .i64 0, .int .i64 0]) W := fun W => run_build W _ _ _ (by kernel_rfl)
  have C := Lib.hid (fun r W h => begun_calls 81 r b hb W h)
  have N := Lib.hid (fun W => names_calls op W)
  rw [hop] at C
  rw [hnm] at N
  unfold ask6
  simp only
  have E0 := fun s => Lib.hid (fun r W h => ended_calls r b hb s W h)
  have D0 := fun s => Lib.hid (fun r W h => rany_calls r b hb s W h)
  have T0 := fun s => Lib.hid (fun r W h => rtext_calls r b hb s W h)
  generalize hd2 b 81 = s0 at C ⊢
  have E := E0 s0
  clear E0 D0 T0
  generalize hen : pEnd b s0 = en at E ⊢
  unfold rqC
  obtain ⟨ag, hag⟩ : ∃ ag, (if en = 0 then (#[.int .i64 op, .int .i64 0, .string ⟨#[]⟩, .int .i64 0, .int .i64 0] : Array Value) else #[.int .i64 0, .int .i64 0, .string ⟨#[]⟩, .int .i64 0, .int .i64 0]) = ag := ⟨_, rfl⟩
  rw [hag]
  have HAG := Lib.hid hag
  clear hop hnm hen hag
  go_enter Try.func12, Try.ntmps12
  go_wp2_with fail
  obtain ⟨W, hW, hz, hRd, hRq, hBl⟩ := prepR w b
  rw [hW]
  clear hW
  refine (C.out _ _ hRd).mono ?_
  rintro x w1 ⟨rfl, hs, hg1⟩
  have HRq := Lib.hid (hRq.of (grown_heap hg1 (by omega) (by omega)))
  have HBl := Lib.hid (grown_below hBl hg1 (by omega) (fun k h => by cases h; omega))
  have hsz : W.heap.size ≤ w1.heap.size := hg1.size
  have HS := Lib.hid hs
  clear hs hRq hBl hg1 hRd
  go_wp2_with fail
  refine (N.out _).mono ?_
  rintro x y ⟨rfl, rfl⟩
  have HQ := Lib.hid (Rq.new w1 op 0 ⟨#[]⟩ 0 0)
  have HS2 := Lib.hid (HS.out.alloc (.cells #[.int .i64 op, .int .i64 0, .string ⟨#[]⟩, .int .i64 0, .int .i64 0] 24))
  have HRq2 := Lib.hid (HRq.out.alloc (.cells #[.int .i64 op, .int .i64 0, .string ⟨#[]⟩, .int .i64 0, .int .i64 0] 24))
  have HBl2 := Lib.hid (HBl.out.alloc (by omega) (.cells #[.int .i64 op, .int .i64 0, .string ⟨#[]⟩, .int .i64 0, .int .i64 0] 24))
  obtain ⟨Q, hQ⟩ : ∃ Q, w1.heap.size = Q := ⟨_, rfl⟩
  have hsz2 : w1.heap.size < (w1.alloc (.cells #[.int .i64 op, .int .i64 0, .string ⟨#[]⟩, .int .i64 0, .int .i64 0] 24)).heap.size := by simp
  generalize w1.alloc (.cells #[.int .i64 op, .int .i64 0, .string ⟨#[]⟩, .int .i64 0, .int .i64 0] 24) = v0 at HQ HS2 HRq2 HBl2 hsz2 ⊢
  rw [hQ] at HQ hsz hsz2 ⊢
  have hQp : Q ≠ w.heap.size := by omega
  have hQr : Q ≠ w.heap.size + 1 := by omega
  have HSd0 := Lib.hid HS2.out
  have HQd0 := Lib.hid HQ.out
  have HPd0 := Lib.hid HRq2.out
  have HBd0 := Lib.hid HBl2.out
  clear HS HRq HBl HQ HS2 HRq2 HBl2
  go_wp2_with fail
  refine (E.out _ _ HSd0.out).mono ?_
  rintro x w5 ⟨rfl, hg5⟩
  have HP5 := Lib.hid (HPd0.out.of (grown_heap hg5 HPd0.out.lt (by omega)))
  have HQ5 := Lib.hid (HQd0.out.of (grown_heap hg5 HQd0.out.lt hQr))
  have HB5 := Lib.hid (grown_below HBd0.out hg5 (by have := HSd0.out.lt; omega) (fun k h => by cases h; omega))
  clear hg5
  obtain ⟨g0, g1, g2, g3, g4, pf⟩ := HP5.out.cells
  obtain ⟨q0, q1, q2, q3, q4, qf⟩ := HQ5.out.cells
  have f0 := pf 0
  have f1 := pf 1
  have f2 := pf 2
  have f3 := pf 3
  have f4 := pf 4
  clear pf qf
  by_cases h0 : en = 0
  · subst h0
    have hag := HAG.out
    rw [if_pos rfl] at hag
    subst hag
    go_wp2
    have hbl := below_five HB5.out (Nat.le_refl _) (.int .i64 op) (.int .i64 0) (.string ⟨#[]⟩) (.int .i64 0) (.int .i64 0)
    refine bodyPost_ret (v := .tuple #[.agg #[.int .i64 op, .int .i64 0, .string ⟨#[]⟩, .int .i64 0, .int .i64 0], .int .i64 0]) ?_ rfl ⟨rfl, hbl⟩
    rw [results_cell_tmp rfl]
    go_simp
  · have hag := HAG.out
    rw [if_neg h0] at hag
    subst hag
    have h1 : (en == 0) = false := by rw [beq_eq_false_iff_ne]; exact h0
    clear h0
    go_wp2
    have hbl := below_five HB5.out (Nat.le_refl _) (.int .i64 0) (.int .i64 0) (.string ⟨#[]⟩) (.int .i64 0) (.int .i64 0)
    refine bodyPost_ret (v := .tuple #[.agg #[.int .i64 0, .int .i64 0, .string ⟨#[]⟩, .int .i64 0, .int .i64 0], .int .i64 en]) ?_ rfl ⟨rfl, hbl⟩
    rw [results_cell_tmp rfl]
    go_simp

theorem rAsked_calls (b : ByteArray) (hb : b.size ≤ 4611686018427387904) (w : World) :
    Calls Try.prog 12 #[.string b] w fun x w' => x = .returned (.tuple #[.agg (askedR b).1, .int .i64 (askedR b).2]) ∧ Below w.heap.size w w' := by
  unfold askedR
  cases h : hd2 b 81 with
  | error e =>
    have h0 : hdv b 81 = 0 := by unfold hdv; rw [h]
    have K := rasked_6 b hb 0 h0 rfl w
    rw [h] at K
    refine K.mono ?_
    rintro x w' ⟨rfl, k⟩
    refine ⟨?_, k⟩
    have hi : ∀ x : Array Value, (if e = 0 then x else x) = x := fun x => by split <;> rfl
    show Ending.returned (.tuple #[.agg (if e = 0 then rqC 0 0 ⟨#[]⟩ 0 0 else rqC 0 0 ⟨#[]⟩ 0 0), .int .i64 e]) = Ending.returned (.tuple #[.agg (rqC 0 0 ⟨#[]⟩ 0 0), .int .i64 e])
    rw [hi]
  | ok a =>
    simp only
    have hr := hd_ok h
    obtain ⟨op, hop⟩ : ∃ op, hdv b 81 = op := ⟨_, rfl⟩
    rw [hop] at hr ⊢
    rw [← h]
    have hc : op = 1 ∨ op = 2 ∨ op = 3 ∨ op = 4 ∨ op = 5 ∨ op = 6 ∨ op = 7 ∨ op = 8 ∨ op = 9 := by omega
    rcases hc with rfl | rfl | rfl | rfl | rfl | rfl | rfl | rfl | rfl
    · exact rasked_1 b hb 1 hop rfl w
    · exact rasked_2 b hb 2 hop rfl w
    · exact rasked_2 b hb 3 hop rfl w
    · exact rasked_4 b hb 4 hop rfl w
    · exact rasked_5 b hb 5 hop rfl w
    · exact rasked_6 b hb 6 hop rfl w
    · exact rasked_6 b hb 7 hop rfl w
    · exact rasked_6 b hb 8 hop rfl w
    · exact rasked_6 b hb 9 hop rfl w
end Go.Proofs.Ytabhjkaheghbhaa

/-
  WALK: MergeGroups.
-/
import Derived.Test.YtahdaccmokjgpaaLawGT
namespace Go.Proofs.Ytahdaccmokjgpaa
open Go.RowKit ArgK
set_option linter.unusedVariables false

/-- Two lists of the call's own, in a row made for them. -/
theorem lls_pair {W : World} {K L : List Ent} {p q : Option Addr} {c d : Nat} {B B' : Nat} (hK : W.ownsRow B 24 5 (.slice p K.length c) K.length (encE K)) (hL : W.ownsRow B' 24 5 (.slice q L.length d) L.length (encE L)) (t : TypeId) :
    LLs (W.alloc (.cells #[.slice p K.length c, .slice q L.length d] t)) (W.alloc (.cells #[.slice p K.length c, .slice q L.length d] t)).heap.size (some ⟨W.heap.size, 0, none⟩) [K, L] := by
  obtain ⟨W3, h3⟩ : ∃ W3, W.alloc (.cells #[.slice p K.length c, .slice q L.length d] t) = W3 := ⟨_, rfl⟩
  have e3 : W3.heap[W.heap.size]? = some (.cells #[.slice p K.length c, .slice q L.length d] t) := by rw [← h3]; exact World.alloc_heap_new W _
  have hK3 : W3.ownsRow B 24 5 (.slice p K.length c) K.length (encE K) := by rw [← h3]; exact hK.alloc _
  have hL3 : W3.ownsRow B' 24 5 (.slice q L.length d) L.length (encE L) := by rw [← h3]; exact hL.alloc _
  rw [h3]
  have hl := (Array.getElem?_eq_some_iff.1 e3).1
  have c1 := (own_rd hK3)
  have c2 := (own_rd hL3)
  obtain ⟨_, _, e1, hc1, _⟩ := c1
  obtain ⟨_, _, e2, hc2, _⟩ := c2
  simp only [Value.slice.injEq] at e1 e2
  obtain ⟨_, _, rfl⟩ := e1
  obtain ⟨_, _, rfl⟩ := e2
  intro i M hM
  match i, hM with
  | 0, hM =>
    simp at hM
    subst hM
    exact ⟨⟨W.heap.size, 0, none⟩, p, c, rfl, hl, by rw [show (⟨W.heap.size, 0, none⟩ : Addr).add 0 = ⟨W.heap.size, 0, none⟩ by unfold Addr.add; split <;> simp_all, cell_of_row _ _ 0 _ _ _ e3]; rfl, hc1, el_own hK3 rfl⟩
  | 1, hM =>
    simp at hM
    subst hM
    exact ⟨⟨W.heap.size, 0, none⟩, q, d, rfl, hl, by rw [show (⟨W.heap.size, 0, none⟩ : Addr).add 1 = ⟨W.heap.size, 1, none⟩ by unfold Addr.add; split <;> simp_all, cell_of_row _ _ 1 _ _ _ e3]; rfl, hc2, el_own hL3 rfl⟩
  | i + 2, hM => simp at hM

theorem DL.dl' {B : Nat} {lv : Value} {lists : List (List Ent)} {w : World} {m : Nat} (h : DL B lv lists w) (hm : lists.length = m) : DL B lv lists w ∧ lists.length = m := ⟨h, hm⟩

theorem LLs.mono {W : World} {B B' : Nat} {p : Option Addr} {lists : List (List Ent)} (h : LLs W B p lists) (hB : B ≤ B') : LLs W B' p lists := by
  intro i L hL
  obtain ⟨a, q, c, e, h1, h2, h3, h4⟩ := h i L hL
  exact ⟨a, q, c, e, by omega, h2, h3, h4.mono hB⟩

/-- What stands behind the first k lists. -/
theorem drop_run {W : World} {B : Nat} {p : Option Addr} {m c k : Nat} {lists : List (List Ent)} (hk : k ≤ m) (h : DL B (.slice p m c) lists W ∧ lists.length = m) :
    ∃ P cq, (∀ w : World, (Instr.slice 43 (.slice p m c) (some (.int .i64 k)) none none).run Try.prog w = .ok (.slice P (m - k) cq) w) ∧ LLs W W.heap.size P (lists.drop k) := by
  obtain ⟨h, hm⟩ := h
  have hl := h.lls
  obtain ⟨vs, h1, _⟩ := h
  rw [hm] at h1
  obtain ⟨q, d, e1, h2, _, hr⟩ := own_rd h1
  simp only [Value.slice.injEq] at e1
  obtain ⟨rfl, _, rfl⟩ := e1
  refine ⟨if c = k then p else p.map (·.add (k * 1)), c - k, fun w => ?_, ?_⟩
  · have hs : ∀ w : World, (sizeOf (Try.prog.elem 43)).run Try.prog w = .ok 1 w := fun w => by kernel_rfl
    rw [run_slice_l (t := 43) (a := p) (len := m) (cap := c) (ht := by kernel_rfl) (kl := .i64) (l := (k : Int)) (h0 := by omega) (h1 := by omega), hs]
    simp [Result.andThen, sliced]
  · by_cases hkm : k < m
    · obtain ⟨g, rfl, _⟩ := hr (by omega)
      rw [if_neg (by omega)]
      have := hl.2.drop k
      rw [show (some (⟨g, 0, none⟩ : Addr)).map (·.add (k * 1)) = some ⟨g, k, none⟩ by simp [Addr.add]; omega]
      exact this
    · rw [List.drop_eq_nil_of_le (by omega)]
      exact LLs.nil

set_option maxRecDepth 100000 in
set_option maxHeartbeats 4000000 in
theorem Groups_walk (v : Value) (z : List Ent) (tv : Value) (tz : List Int) (ov : Value) (oz : List Int) (a3 : Int) (w3 : (Lit.int .i64 a3).wf = true) (bottom : Bool) (w : World) (h0 : IsSl w 5 48 IsEnt [v] z) (h1 : XKit.IsRow w tv tz) (h2 : XKit.IsRow w ov oz) :
    Calls Try.prog 8 #[v, tv, ov, .int .i64 a3, .bool bottom] w fun e w' => e = .returned (.bool true) ∧ Below w.heap.size w w' := by
  obtain ⟨hES, hzl, hzw⟩ := esl_arg h0
  obtain ⟨all, hall⟩ : ∃ all, freshF [] z = all := ⟨_, rfl⟩
  have HD : Hid (Dist all) := Lib.hid (hall ▸ freshF_dist z [] List.Pairwise.nil)
  have hl : all.length ≤ 60 := hall ▸ freshF_len z [] (by simp)
  have HW : Hid (∀ e ∈ all, (Lit.int .i64 e.s).wf = true) := Lib.hid (fun e he => by
    rw [← hall] at he
    rcases freshF_sub z [] e he with h | h
    · simp at h
    · exact hzw e h)
  obtain ⟨n, hn⟩ : ∃ n, all.length = n := ⟨_, rfl⟩
  have HF : Hid (∀ W, Below w.heap.size w W → Calls Try.prog 26 #[v] W (fun e W' => ∃ q c, e = .returned (.slice q n c) ∧ Below W.heap.size W W' ∧ W'.ownsRow W.heap.size 24 5 (.slice q n c) n (encE all))) := Lib.hid (fun W hb => by rw [← hn]; exact fresh_run hES hzl hall hb)
  have HR := Lib.hid h1
  have HR2 := Lib.hid h2
  have HN := Lib.hid hn
  have HL := Lib.hid hl
  obtain ⟨R, hR⟩ : ∃ R, lastG all bottom [] all = R := ⟨_, rfl⟩
  obtain ⟨r, hr⟩ : ∃ r, R.length = r := ⟨_, rfl⟩
  have hRl : r ≤ 60 := by have := lastG_length all bottom all []; rw [hR, hr] at this; simp at this; omega
  have HRR := Lib.hid hR
  have HRl := Lib.hid hRl
  have HRn := Lib.hid hr
  rw [hn] at hl
  clear h0 h1 h2 hES hzl hzw hall hn hR hr hRl
  go_enter Try.func8, Try.ntmps8
  go_wp2_with fail
  refine (begun_calls _).mono ?_
  rintro e y1 ⟨rfl, hb1⟩
  have B1 := Lib.hid hb1
  clear hb1
  go_wp2_with fail
  refine (HF.out y1 B1.out).mono ?_
  rintro e y2 ⟨q0, c0, rfl, hb2, ho2⟩
  have B2 := Lib.hid (B1.out.trans (hb2.mono B1.out.size))
  have E2 : Hid (ESl y2 (.slice q0 n c0) all) := Lib.hid (ESl.of_own ho2)
  clear hb2 ho2
  go_wp2_with fail
  refine (dealt_run E2.out HL.out (row_below HR.out B2.out)).mono ?_
  rintro e y3 ⟨lp, m, lc, lists, rfl, hm, hb3, hDL, hDe⟩
  have B3 := Lib.hid (B2.out.trans (hb3.mono B2.out.size))
  have E3 := Lib.hid (E2.out.below hb3)
  have HDL := Lib.hid hDL
  have HDe := Lib.hid hDe
  have HM := Lib.hid hm
  have S3 := Lib.hid hb3.size
  have hm60 : m ≤ 60 := by have := hDe.2.2; have := HL.out; omega
  clear hb3 hDL hDe hm
  have MD : Hid (∀ (W : World) (B : Nat) (p : Option Addr) (n c : Nat) (ls : List (List Ent)), DL B (.slice p n c) ls W → Dealt ls all → Calls Try.prog 22 #[.slice p n c, .bool bottom] W (fun e w' => ∃ q c, e = .returned (.tuple #[.slice q r c, .int .i64 0]) ∧ Below W.heap.size W w' ∧ w'.ownsRow W.heap.size 24 5 (.slice q r c) r (encE R))) :=
    Lib.hid (fun W B p n c ls h1 h2 => by
      have := merge_dealt bottom h1 h2 HD.out HL.out HW.out
      rw [HRR.out, HRn.out] at this
      exact this)
  go_wp2_with fail
  refine (MD.out _ _ _ _ _ _ HDL.out HDe.out).mono ?_
  rintro e y4 ⟨qa, ca, rfl, hb4, ha4⟩
  have B4 := Lib.hid (B3.out.trans (hb4.mono B3.out.size))
  have D4 := Lib.hid (HDL.out.below hb4)
  have A4 := Lib.hid ha4
  have E4 := Lib.hid (E3.out.below hb4)
  have S4 : Hid (y2.heap.size ≤ y4.heap.size) := Lib.hid (Nat.le_trans S3.out hb4.size)
  clear hb4 ha4
  go_wp2_with fail
  refine (turned_calls D4.out S4.out HM.out (by omega)).mono ?_
  rintro e y5 ⟨pt, ct, rfl, hb5, hD5⟩
  rw [HM.out] at hD5 ⊢
  have B5 := Lib.hid (B4.out.trans (hb5.mono B4.out.size))
  have D5 := Lib.hid (D4.out.below hb5)
  have A5 := Lib.hid (own_belowAll A4.out hb5)
  have E5 := Lib.hid (E4.out.below hb5)
  have T5 := Lib.hid hD5
  clear hb5 hD5
  go_wp2_with fail
  refine (MD.out _ _ _ _ _ _ T5.out HDe.out.rev).mono ?_
  rintro e y6 ⟨qb, cb, rfl, hb6, ho6⟩
  have B6 := Lib.hid (B5.out.trans (hb6.mono B5.out.size))
  have D6 := Lib.hid (D5.out.below hb6)
  have A6 := Lib.hid (own_belowAll A5.out hb6)
  have E6 := Lib.hid (E5.out.below hb6)
  have P6 := Lib.hid ho6
  clear hb6 ho6
  go_wp2_with fail
  refine (dealt_run E6.out HL.out (row_below HR2.out B6.out)).mono ?_
  rintro e y7 ⟨lp2, m2, lc2, lists2, rfl, hm2, hb7, hDL2, hDe2⟩
  have B7 := Lib.hid (B6.out.trans (hb7.mono B6.out.size))
  have D7 := Lib.hid (D6.out.below hb7)
  have A7 := Lib.hid (own_belowAll A6.out hb7)
  have P7 := Lib.hid (own_belowAll P6.out hb7)
  have N7 := Lib.hid hDL2
  have NE := Lib.hid hDe2
  clear hb7 hDL2 hDe2 hm2
  go_wp2_with fail
  refine (MD.out _ _ _ _ _ _ N7.out NE.out).mono ?_
  rintro e y8 ⟨qc, cc, rfl, hb8, ho8⟩
  have B8 := Lib.hid (B7.out.trans (hb8.mono B7.out.size))
  have D8 := Lib.hid (D7.out.below hb8)
  have A8 := Lib.hid (own_belowAll A7.out hb8)
  have P8 := Lib.hid (own_belowAll P7.out hb8)
  have Q8 := Lib.hid ho8
  clear hb8 ho8
  go_upto_region 7 with fail
  go_cut [63] from 56 to 63 (fun bv wx => y8 = wx ∧ bv = .bool (decide (a3 < 0) || decide ((m : Int) < a3)))
  case first =>
    by_cases h1 : a3 < 0
    · go_wp2_with fail
      go_meet
      exact ⟨rfl, by simp [h1]⟩
    · by_cases h2 : (m : Int) < a3
      · go_wp2_with fail
        go_meet
        exact ⟨rfl, by simp [h2]⟩
      · go_wp2_with fail
        go_meet
        exact ⟨rfl, by simp [h1, h2]⟩
  case rest =>
    obtain ⟨rfl, rfl⟩ := hcut
    go_upto_if 63 with fail
    go_cut [3] from 64 to 66 (fun kv wx => y8 = wx ∧ ∃ k : Nat, kv = .int .i64 k ∧ k ≤ m)
    case first =>
      by_cases h1 : a3 < 0 ∨ (m : Int) < a3
      · have hb : (decide (a3 < 0) || decide ((m : Int) < a3)) = true := by simpa using h1
        go_wp2_with fail
        go_meet
        exact ⟨rfl, m / 2, rfl, by omega⟩
      · have hb : (decide (a3 < 0) || decide ((m : Int) < a3)) = false := by
          simp
          omega
        go_wp2_with fail
        go_meet
        exact ⟨rfl, a3.toNat, by congr 1; omega, by omega⟩
    case rest =>
      obtain ⟨rfl, k, rfl, hkm⟩ := hcut
      have hmc : m ≤ lc := by
        obtain ⟨vs, h1, _⟩ := D8.out
        obtain ⟨_, _, e1, h2, _⟩ := own_rd h1
        simp only [Value.slice.injEq] at e1
        omega
      have hkc : k ≤ lc := by omega
      have hki : (k : Int) ≤ (lc : Int) := by omega
      have hkm' : (k : Int) ≤ (m : Int) := by omega
      obtain ⟨P, cq, hS, hPL⟩ := drop_run (W := y8) hkm (D8.out.dl' HM.out)
      have HPL := Lib.hid hPL
      obtain ⟨wa, wb, g1, g2, g3, g4, g5, g6, g7, g8, g9⟩ := merge_parts bottom HD.out HDe.out HL.out k
      rw [HRR.out] at g9
      obtain ⟨na, hna⟩ : ∃ n, wa.length = n := ⟨_, rfl⟩
      obtain ⟨nb, hnb⟩ : ∃ n, wb.length = n := ⟨_, rfl⟩
      rw [hna] at g7
      rw [hnb] at g8
      obtain ⟨d, hd⟩ : ∃ d, m - k = d := ⟨_, rfl⟩
      have K1 : Hid (Calls Try.prog 22 #[.slice lp k lc, .bool false] y8 (fun e w' => ∃ q c, e = .returned (.tuple #[.slice q na c, .int .i64 0]) ∧ Below y8.heap.size y8 w' ∧ w'.ownsRow y8.heap.size 24 5 (.slice q na c) na (encE wa))) := Lib.hid (by
        rw [← hna]
        exact merge_known (by rw [List.length_take, HM.out]; omega) (by omega) ((D8.out.lls).2.take k) (fun L hL => by have := HDe.out.short (List.mem_of_mem_take hL); have := HL.out; omega) (fun L hL => HDe.out.1 L (List.mem_of_mem_take hL)) g1 (by omega) (fun L hL e he => HW.out e (HDe.out.mem (List.mem_of_mem_take hL) he)))
      have K2 : Hid (∀ W, Below y8.heap.size y8 W → Calls Try.prog 22 #[.slice P d cq, .bool false] W (fun e w' => ∃ q c, e = .returned (.tuple #[.slice q nb c, .int .i64 0]) ∧ Below W.heap.size W w' ∧ w'.ownsRow W.heap.size 24 5 (.slice q nb c) nb (encE wb))) := Lib.hid (fun W hW => by
        rw [← hnb]
        exact merge_known (by rw [List.length_drop, HM.out]; omega) (by omega) ((HPL.out.below hW).mono hW.size) (fun L hL => by have := HDe.out.short (List.mem_of_mem_drop hL); have := HL.out; omega) (fun L hL => HDe.out.1 L (List.mem_of_mem_drop hL)) g2 (by omega) (fun L hL e he => HW.out e (HDe.out.mem (List.mem_of_mem_drop hL) he)))
      have K3 : Hid (∀ W p, LLs W W.heap.size p [wa, wb] → Calls Try.prog 22 #[.slice p 2 2, .bool bottom] W (fun e w' => ∃ q c, e = .returned (.tuple #[.slice q r c, .int .i64 0]) ∧ Below W.heap.size W w' ∧ w'.ownsRow W.heap.size 24 5 (.slice q r c) r (encE R))) := Lib.hid (fun W p hL => by
        rw [← HRn.out]
        exact merge_known rfl (by decide) hL (fun L h => by simp at h; rcases h with rfl | rfl <;> omega) (fun L h => by simp at h; rcases h with rfl | rfl <;> assumption) g9 (by rw [HRn.out]; have := HRl.out; omega) (fun L h e he => by simp at h; rcases h with rfl | rfl; exact HW.out e (g5 e he); exact HW.out e (g6 e he)))
      have HNa := Lib.hid hna
      have HNb := Lib.hid hnb
      rw [hd] at hS
      clear hPL g1 g2 g3 g4 g5 g6 g9 hna hnb hd
      go_wp2_with fail
      refine K1.out.mono ?_
      rintro e y9 ⟨qd, cd, rfl, hb9, ho9⟩
      have B9 := Lib.hid (B8.out.trans (hb9.mono B8.out.size))
      have C9 := Lib.hid hb9
      have A9 := Lib.hid (own_belowAll A8.out hb9)
      have P9 := Lib.hid (own_belowAll P8.out hb9)
      have Q9 := Lib.hid (own_belowAll Q8.out hb9)
      have U9 := Lib.hid ho9
      clear hb9 ho9
      go_wp2_with fail
      refine (K2.out y9 C9.out).mono ?_
      rintro e yA ⟨qe, ce, rfl, hbA, hoA⟩
      have BA := Lib.hid (B9.out.trans (hbA.mono B9.out.size))
      have AA := Lib.hid (own_belowAll A9.out hbA)
      have PA := Lib.hid (own_belowAll P9.out hbA)
      have QA := Lib.hid (own_belowAll Q9.out hbA)
      have UA := Lib.hid (own_belowAll U9.out hbA)
      have VA := Lib.hid hoA
      clear hbA hoA
      go_wp2_with fail
      have hpr := lls_pair (K := wa) (L := wb) (by rw [HNa.out]; exact UA.out) (by rw [HNb.out]; exact VA.out) 25
      rw [HNa.out, HNb.out] at hpr
      refine (K3.out _ _ hpr).mono ?_
      clear hpr
      rintro e yB ⟨qf, cf, rfl, hbB, hoB⟩
      have hbB' := (((Below.refl _ yA).alloc (Nat.le_refl _) _).trans (hbB.mono (by simp)) : Below yA.heap.size yA yB)
      have BB := Lib.hid (BA.out.trans (hbB'.mono BA.out.size))
      have AB := Lib.hid (ESl.of_own (own_belowAll AA.out hbB'))
      have PB := Lib.hid (ESl.of_own (own_belowAll PA.out hbB'))
      have QB := Lib.hid (ESl.of_own (own_belowAll QA.out hbB'))
      have VB := Lib.hid (ESl.of_own hoB)
      have hRq : R.length < 4611686018427387904 := by rw [HRn.out]; have := HRl.out; omega
      have HRq := Lib.hid hRq
      clear hbB hbB' hoB hRq
      go_wp2_with fail
      refine (sameE_true _ _ R HRq.out _ AB.out PB.out).mono ?_
      rintro e yC ⟨rfl, hbC⟩
      have BC := Lib.hid (BB.out.trans (hbC.mono BB.out.size))
      have AC := Lib.hid (AB.out.below hbC)
      have QC := Lib.hid (QB.out.below hbC)
      have VC := Lib.hid (VB.out.below hbC)
      clear hbC
      go_wp2_with fail
      refine (sameE_true _ _ R HRq.out _ AC.out QC.out).mono ?_
      rintro e yD ⟨rfl, hbD⟩
      have BD := Lib.hid (BC.out.trans (hbD.mono BC.out.size))
      have AD := Lib.hid (AC.out.below hbD)
      have VD := Lib.hid (VC.out.below hbD)
      clear hbD
      go_wp2_with fail
      refine (sameE_true _ _ R HRq.out _ AD.out VD.out).mono ?_
      rintro e yE ⟨rfl, hbE⟩
      have BE := Lib.hid (BD.out.trans (hbE.mono BD.out.size))
      clear hbE
      go_wp2
      go_ret
      exact ⟨rfl, BE.out⟩
end Go.Proofs.Ytahdaccmokjgpaa

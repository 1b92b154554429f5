/-
  WALKS: the document's reader: hits. (Printed by rhitgen.py.)
-/
import Derived.Test.YtabhjkaheghbhaaHitR
import Derived.Test.YtabhjkaheghbhaaRefA
import Derived.Test.YtabhjkaheghbhaaTellD
namespace Go.Proofs.Ytabhjkaheghbhaa
open Go.RowKit
set_option linter.unusedVariables false

theorem pNum_43 (b : ByteArray) (s : St) : (∃ a n, pNum b 9223372036854775807 13 s = (.ok a, n) ∧ 65536 < n ∧ pNum b 65536 43 s = (.error 43, 0)) ∨ ((pNum b 9223372036854775807 13 s).2 ≤ 65536 ∧ pNum b 65536 43 s = pNum b 9223372036854775807 13 s) := by
  cases s with
  | error e => exact .inr ⟨by simp [pNum], rfl⟩
  | ok a =>
    unfold pNum
    simp only
    by_cases h1 : (varR b.data.toList a).2.2 ≠ 0
    · right
      rw [if_pos h1, if_pos h1]
      exact ⟨by show (0 : Int) ≤ 65536; decide, rfl⟩
    · rw [if_neg h1, if_neg h1]
      by_cases h2 : 9223372036854775807 < (varR b.data.toList a).1
      · right
        rw [if_pos h2, if_pos h2]
        exact ⟨by show (0 : Int) ≤ 65536; decide, rfl⟩
      · rw [if_neg h2, if_neg h2, if_neg h2]
        by_cases h3 : 65536 < (varR b.data.toList a).1
        · left
          rw [if_pos h3]
          exact ⟨_, _, rfl, by omega, rfl⟩
        · right
          rw [if_neg h3]
          exact ⟨by simp only; omega, rfl⟩
theorem ht_set {w : World} {q : Nat} {T : TypeId} {d i : Int} {c : ByteArray} (h : w.heap[q]? = some (.cells #[.int .i64 d, .int .i64 i, .string c] T (0, 0))) :
    (∀ x, (w.setCell ⟨q, 1, none⟩ (.int .i64 x)).heap[q]? = some (.cells #[.int .i64 d, .int .i64 x, .string c] T (0, 0))) ∧ (∀ x, (w.setCell ⟨q, 2, none⟩ (.string x)).heap[q]? = some (.cells #[.int .i64 d, .int .i64 i, .string x] T (0, 0))) := by
  refine ⟨fun x => ?_, fun x => ?_⟩ <;> simp [World.setCell, Array.getElem?_modify, h]
theorem ht_cells {w : World} {q : Nat} {T : TypeId} {d i : Int} {c : ByteArray} (h : w.heap[q]? = some (.cells #[.int .i64 d, .int .i64 i, .string c] T (0, 0))) :
    w.cell? ⟨q, 0, none⟩ = some (.int .i64 d) ∧ w.cell? ⟨q, 1, none⟩ = some (.int .i64 i) ∧ w.cell? ⟨q, 2, none⟩ = some (.string c) ∧ ∀ j, w.frozen? ⟨q, j, none⟩ = false := by
  simp [World.cell?, World.frozen?, h]
theorem three_at' {W : World} {g m c q d base r : Nat} {e T : TypeId} {F : List Hv} {y x : Hv} {b : ByteArray} {s : St} (h : W.ownsRow base e 3 (.slice (some ⟨g, 0, none⟩) m c) m (encH F)) (hy : F[d]? = some y) (hq : W.heap[q]? = some (.cells #[.int .i64 x.d, .int .i64 x.i, .string x.c] T (0, 0))) (hr : W.cell? ⟨r, 2, none⟩ = some (.int .i64 0)) :
    W.cell? ⟨r, 2, none⟩ = some (.int .i64 0) ∧ W.cell? ⟨g, d * 3, none⟩ = some (.int .i64 y.d) ∧ W.cell? ⟨g, d * 3 + 1, none⟩ = some (.int .i64 y.i) ∧ W.cell? ⟨g, d * 3 + 2, none⟩ = some (.string y.c) ∧ W.cell? ⟨q, 0, none⟩ = some (.int .i64 x.d) ∧ W.cell? ⟨q, 1, none⟩ = some (.int .i64 x.i) ∧ W.cell? ⟨q, 2, none⟩ = some (.string x.c) := ⟨hr, three_at h hy hq⟩

set_option maxRecDepth 100000 in
theorem rhits_many (r : Nat) (b : ByteArray) (hb : b.size ≤ 4611686018427387904) (s : St) (a : Nat) (n : Int) (hp : pNum b 9223372036854775807 13 s = (.ok a, n)) (hn : 65536 < n) (w : World) (h : Rd w 74 r b s) :
    Calls Try.prog 43 #[.pointer (some ⟨r, 0, none⟩)] w fun x w' => ∃ v, x = .returned v ∧ w'.ownsRow w.heap.size 35 3 v 0 (encH []) ∧ Rd w' 74 r b (.error 43) ∧ w.grownBy w' (some r) := by
  have C := Lib.hid (rany_calls r b hb s w h)
  rw [hp] at C
  have d1 : decide (65536 < n) = true := by simpa using hn
  have d2 : decide (0 < n) = true := by simp; omega
  have RF := Lib.hid (fun W h => rrefuse_calls r b a 0 43 W h)
  rw [show rf true 43 0 = 43 by simp [rf]] at RF
  clear h hp hn
  go_enter Try.func43, Try.ntmps43
  go_wp2_with fail
  refine C.out.mono ?_
  rintro x w1 ⟨rfl, h1, h2⟩
  have H1 := Lib.hid h1.2
  have H2 := Lib.hid h2
  clear h1 h2 C
  go_wp2_with fail
  refine (RF.out _ H1.out).mono ?_
  rintro x w2 ⟨rfl, h3, h4⟩
  have H3 := Lib.hid h3
  have H4 := Lib.hid (grown_trans H2.out h4)
  have c2 := h3.cells.2.2.1
  clear h3 h4 H1 H2 RF
  go_wp2
  go_loopw [3, 5] (fun v i ws => v = .slice none 0 0 ∧ i = .int .i64 0 ∧ ws = w2) (fun _ _ _ => 0)
  case atStart => exact ⟨rfl, rfl, rfl⟩
  case round =>
    obtain ⟨rfl, rfl, rfl⟩ := hrel
    go_wp2
    go_ret
    exact ⟨_, rfl, World.ownsRow_nil _ _ _ _, ⟨by decide, _, H3.out⟩, H4.out⟩

set_option maxRecDepth 100000 in
set_option maxHeartbeats 2000000 in
theorem rhits_few (r : Nat) (b : ByteArray) (hb : b.size ≤ 4611686018427387904) (s : St) (w : World) (h : Rd w 74 r b s) (hfew : pNum b 65536 43 s = pNum b 9223372036854775807 13 s) :
    Calls Try.prog 43 #[.pointer (some ⟨r, 0, none⟩)] w fun x w' => ∃ v, x = .returned v ∧ w'.ownsRow w.heap.size 35 3 v (pHits b s).2.length (encH (pHits b s).2) ∧ Rd w' 74 r b (pHits b s).1 ∧ w.grownBy w' (some r) := by
  obtain ⟨i0, hi, hy0, hy1, hy2⟩ := info_parts hitinfo
  have hrl := h.lt
  have C := Lib.hid (rany_calls r b hb s w h)
  rw [← hfew] at C
  have NU := Lib.hid (fun s W h => rany_calls r b hb s W h)
  have TX := Lib.hid (fun s W h => rtext_calls r b hb s W h)
  have WB := Lib.hid (fun (x y : Hv) W => ordered_calls x y W)
  have RF := Lib.hid (fun a W h => rrefuse_calls r b a 0 50 W h)
  rw [show rf true 50 0 = 50 by simp [rf]] at RF
  have hn := pNum_le b 65536 43 s
  have hFH : pHits b s = pLoop b (pNum b 65536 43 s).2.toNat (pNum b 65536 43 s).1 [] := rfl
  obtain ⟨s1, n, hsn⟩ : ∃ s1 n, pNum b 65536 43 s = (s1, n) := ⟨_, _, rfl⟩
  rw [hsn] at hn C hFH
  obtain ⟨m, rfl⟩ : ∃ m : Nat, n = m := ⟨n.toNat, by simp only at hn; omega⟩
  simp only [Int.toNat_natCast] at hFH hn C
  obtain ⟨FS, FL, hF⟩ : ∃ FS FL, pHits b s = (FS, FL) := ⟨_, _, rfl⟩
  rw [hF] at hFH ⊢
  have hm : m ≤ 65536 := by omega
  have hm2 : decide (65536 < (m : Int)) = false := by simp; omega
  have HF := Lib.hid hFH.symm
  obtain ⟨g0, hg0⟩ : ∃ g0, w.heap.size = g0 := ⟨_, rfl⟩
  rw [hg0] at hrl ⊢
  have HG0 := Lib.hid hg0
  clear h hsn hF hFH hn hg0 hfew
  go_enter Try.func43, Try.ntmps43
  go_wp2_with fail
  refine C.out.mono ?_
  rintro x w1 ⟨rfl, h1, h2⟩
  have H1 := Lib.hid h1
  have H2 := Lib.hid h2
  clear h1 h2 C
  go_wp2
  go_loopw [3, 5] (fun v i ws => ∃ (k : Nat) (s : St) (l : List Hv), k ≤ m ∧ i = .int .i64 k ∧ Hid (l.length = k) ∧ Hid (ws.ownsRow g0 35 3 v k (encH l)) ∧ Hid (Rd ws 74 r b s) ∧ Hid (w.grownBy ws (some r)) ∧ Hid (pLoop b (m - k) s l = (FS, FL))) (fun _ i _ => m - (intOf i).toNat)
  case atStart => exact ⟨0, s1, [], Nat.zero_le _, rfl, Lib.hid rfl, Lib.hid ⟨rfl, .inl ⟨rfl, rfl⟩⟩, H1, H2, Lib.hid (by simpa using HF.out)⟩
  case round =>
    obtain ⟨k, s, l, hk, rfl, HLN, HO, HRd, HGr, HP⟩ := hrel
    clear H1 H2 HF
    by_cases hlt : k < m
    · have hd : decide ((k : Int) < (m : Int)) = true := by simpa using hlt
      have hdn : decide (k < m) = true := by simpa using hlt
      cases s with
      | error e =>
        have hp := HP.out
        rw [pLoop_err] at hp
        obtain ⟨rfl, rfl⟩ := Prod.mk.inj hp
        obtain ⟨e', c2, he⟩ := HRd.out.bad
        simp only at he
        clear hp
        go_wp2
        go_ret
        exact ⟨_, rfl, by rw [HLN.out]; exact HO.out, HRd.out, HGr.out⟩
      | ok a =>
        have hp := HP.out
        rw [show m - k = (m - (k + 1)) + 1 by omega, pLoop_step] at hp
        have hsz0 : g0 ≤ wr.heap.size := by have := HGr.out.size; have := HG0.out; omega
        have c2 : wr.cell? ⟨r, 2, none⟩ = some (.int .i64 0) := HRd.out.2.cells.2.2.1
        have HL := Lib.hid (HRd.out)
        have HP1 := Lib.hid hp
        clear hp HP
        go_wp2_with fail
        refine (NU.out _ _ HRd.out).mono ?_
        rintro _ wA ⟨rfl, hA1, hA2⟩
        obtain ⟨x, hx⟩ : ∃ x, (hitR b l.getLast? (.ok a)).2 = x := ⟨_, rfl⟩
        have hx1 : (pNum b 9223372036854775807 13 (.ok a)).2 = x.d := by rw [← hx]; rfl
        rw [hx1]
        have hszA := Nat.le_trans hsz0 hA2.size
        have OA1 := own_grown HO.out hA2 (fun g hg e => by cases e; have := (HO.out.lt _ hg).1; omega)
        have hvq := OA1.lt
        have KA := Lib.hid (heap_alloc_last wA (.cells #[.int .i64 x.d, .int .i64 0, .string ⟨#[]⟩] 35))
        have HA := Lib.hid (hA1.of (Below.heap_alloc wA (.cells #[.int .i64 x.d, .int .i64 0, .string ⟨#[]⟩] 35) _ hA1.lt))
        have OA := Lib.hid (OA1.alloc (.cells #[.int .i64 x.d, .int .i64 0, .string ⟨#[]⟩] 35))
        have GA := Lib.hid (grown_belowW (grown_trans HGr.out hA2) ((Below.refl g0 wA).alloc hszA (.cells #[.int .i64 x.d, .int .i64 0, .string ⟨#[]⟩] 35)) (by rw [HG0.out]; exact Nat.le_refl _))
        go_upto_region 9 with fail
        obtain ⟨q, hq⟩ : ∃ q, wA.heap.size = q := ⟨_, rfl⟩
        generalize wA.alloc (.cells #[.int .i64 x.d, .int .i64 0, .string ⟨#[]⟩] 35) = wA2 at KA HA OA GA ⊢
        rw [hq] at KA hszA hvq ⊢
        have hrq : r ≠ q := by omega
        clear hA1 hA2 c2 HL OA1 hq HO HGr HRd
        go_wp2_with fail
        refine (NU.out _ _ HA.out).mono ?_
        rintro _ wB ⟨rfl, hB1, hB2⟩
        have hx2 : (pNum b 9223372036854775807 13 (pNum b 9223372036854775807 13 (.ok a)).1).2 = x.i := by rw [← hx]; rfl
        rw [hx2]
        have KB := (hB2.block q (Array.getElem?_eq_some_iff.1 KA.out).1 (fun e => hrq (Option.some.inj e).symm)).trans KA.out
        obtain ⟨_, _, _, fB⟩ := ht_cells KB
        have f1 := fB 1
        have HB := Lib.hid (hB1.set (q := q) (fun e => hrq e.symm) 1 (.int .i64 x.i))
        have OB := Lib.hid (own_setCell (p := ⟨q, 1, none⟩) (own_grown OA.out hB2 (fun g hg e => by cases e; have := (OA.out.lt _ hg).1; omega)) (fun e => by have := (hvq _ e).2; exact absurd this (Nat.lt_irrefl _)) (.int .i64 x.i))
        have KB2 := Lib.hid ((ht_set KB).1 x.i)
        have GB := Lib.hid (grown_belowW (grown_trans GA.out hB2) ((Below.refl g0 wB).setCell (p := ⟨q, 1, none⟩) hszA (.int .i64 x.i)) (by rw [HG0.out]; exact Nat.le_refl _))
        go_upto_region 10 with fail
        generalize wB.setCell ⟨q, 1, none⟩ (.int .i64 x.i) = wB2 at HB OB KB2 GB ⊢
        clear hB1 hB2 KA HA OA GA KB fB f1
        go_wp2_with fail
        refine (TX.out _ _ HB.out).mono ?_
        rintro _ wC ⟨rfl, hC1, hC2⟩
        have hx3 : (pText b (pNum b 9223372036854775807 13 (pNum b 9223372036854775807 13 (.ok a)).1).1).2 = x.c := by rw [← hx]; rfl
        rw [hx3]
        have hS : (pText b (aNum b (aNum b (.ok a)).1).1).1 = (pText b (pNum b 9223372036854775807 13 (pNum b 9223372036854775807 13 (.ok a)).1).1).1 := rfl
        have HHX := Lib.hid hx
        have HHS := Lib.hid hS
        have HP2 := HP1.out
        rw [hx] at HP2
        generalize (pText b (pNum b 9223372036854775807 13 (pNum b 9223372036854775807 13 (.ok a)).1).1).1 = s3 at hC1 HHS
        have KC := (hC2.block q (Array.getElem?_eq_some_iff.1 KB2.out).1 (fun e => hrq (Option.some.inj e).symm)).trans KB2.out
        obtain ⟨_, _, _, fC⟩ := ht_cells KC
        have f2 := fC 2
        have HD := Lib.hid (hC1.set (q := q) (fun e => hrq e.symm) 2 (.string x.c))
        have OD := Lib.hid (own_setCell (p := ⟨q, 2, none⟩) (own_grown OB.out hC2 (fun g hg e => by cases e; have := (OB.out.lt _ hg).1; omega)) (fun e => by have := (hvq _ e).2; exact absurd this (Nat.lt_irrefl _)) (.string x.c))
        have KD := Lib.hid ((ht_set KC).2 x.c)
        have GD := Lib.hid (grown_belowW (grown_trans GB.out hC2) ((Below.refl g0 wC).setCell (p := ⟨q, 2, none⟩) hszA (.string x.c)) (by rw [HG0.out]; exact Nat.le_refl _))
        go_upto_region 11 with fail
        generalize wC.setCell ⟨q, 2, none⟩ (.string x.c) = wD at HD OD KD GD ⊢
        clear hC1 hC2 HB OB KB2 GB KC fC f2 hx hx1 hx2 hx3 hS HP1
        have hqD : q < wD.heap.size := (Array.getElem?_eq_some_iff.1 KD.out).1
        have hszD : g0 ≤ wD.heap.size := by omega
        obtain ⟨kd0, kd1, kd2, _⟩ := ht_cells KD.out
        cases s3 with
        | error e3 =>
          have HPN : Hid (pLoop b (m - (k + 1)) (.error e3) (l ++ [x]) = (FS, FL)) := Lib.hid (by
            have h9 := HP2
            cases hgl : l.getLast? with
            | none =>
              rw [hgl, hitR_none, HHS.out] at h9
              exact h9
            | some y =>
              have hxx := HHX.out
              rw [hgl] at h9 hxx
              rw [hitR_rf, hxx, HHS.out] at h9
              exact h9)
          obtain ⟨e', c2, he⟩ := HD.out.bad
          simp only at he
          clear HP2
          go_quiet (fail)
          have OF := Lib.hid (own_belowAll OD.out (drewN_below wD.heap.size wD nq))
          have HRF := Lib.hid (HD.out.of (w' := wD.drewN nq) rfl)
          have GF := Lib.hid (grown_belowW GD.out (drewN_below g0 wD nq) (by rw [HG0.out]; exact Nat.le_refl _))
          have KF : Hid ((wD.drewN nq).heap[q]? = some (.cells #[.int .i64 x.d, .int .i64 x.i, .string x.c] 35 (0, 0))) := Lib.hid KD.out
          have hszF : g0 ≤ (wD.drewN nq).heap.size := hszD
          generalize wD.drewN nq = wF at OF HRF GF KF hszF ⊢
          have x0 : wF.cell? ⟨q, 0, none⟩ = some (.int .i64 x.d) := by unfold World.cell?; rw [KF.out]; rfl
          have x1 : wF.cell? ⟨q, 1, none⟩ = some (.int .i64 x.i) := by unfold World.cell?; rw [KF.out]; rfl
          have x2 : wF.cell? ⟨q, 2, none⟩ = some (.string x.c) := by unfold World.cell?; rw [KF.out]; rfl
          have chk1 : (k + 1) * 32 ≤ 140737488355328 := by omega
          have chk2 : k + 1 ≤ maxLen := by unfold maxLen; omega
          have chk3 : ∀ j u, x.cells[j]? = some u → (wF.alloc (.cells #[.int .i64 x.d, .int .i64 x.i, .string x.c] 35)).cell? ((⟨wF.heap.size, 0, none⟩ : Addr).add j) = some u := World.news_of_block (heap_alloc_last wF _)
          have chk4 : ∀ u ∈ x.cells, u.oneCell' = true := by simp [Hv.cells, Value.oneCell']
          have chk5 : g0 ≤ (wF.alloc (.cells #[.int .i64 x.d, .int .i64 x.i, .string x.c] 35)).heap.size := by rw [World.size_alloc]; omega
          go_wp2_with (at_builtin; refine wpList_append_own _ rfl _ _ 31 rfl g0 35 i0 _ 3 32 Try.underlying31 hi hy0 hy1 hy2 rfl (by decide) _ k _ rfl (OF.out.alloc _) ⟨wF.heap.size, 0, none⟩ 1 1 x.cells rfl rfl chk3 chk4 chk2 chk1 chk5 ?_)
          intro v' w2 hown' hgrow _
          have hBg : Below g0 (wF.alloc (.cells #[.int .i64 x.d, .int .i64 x.i, .string x.c] 35)) w2 := grown_below (Below.refl _ _) hgrow (by rw [World.size_alloc]; omega) (fun k hk => (OF.out.lt k hk).1)
          have N1 : Hid (w2.ownsRow g0 35 3 v' (k + 1) (encH (l ++ [x]))) := Lib.hid (by rw [encH_snoc]; exact hown')
          have N2 : Hid (Rd w2 74 r b (.error e3)) := Lib.hid (((HRF.out.of (Below.heap_alloc _ _ _ HRF.out.lt)).of (hBg.block _ (by omega))))
          have N3 : Hid (w.grownBy w2 (some r)) := Lib.hid (grown_belowW (GF.out) ((((Below.refl g0 wF).alloc hszF _)).trans hBg) (by rw [HG0.out]; exact Nat.le_refl _))
          have N4 : Hid ((l ++ [x]).length = k + 1) := Lib.hid (by rw [List.length_append, HLN.out]; rfl)
          clear hown' hgrow hBg
          go_wp2
          go_roundw
          case rel => exact ⟨k + 1, (.error e3), l ++ [x], by omega, by go_num, N4, N1, N2, N3, HPN⟩
          case measure => simp [intOf]; omega
        | ok a3 =>
          have c2 : wD.cell? ⟨r, 2, none⟩ = some (.int .i64 0) := HD.out.2.cells.2.2.1
          by_cases h0 : k = 0
          · have hg : decide (0 < (k : Int)) = false := by simp; omega
            have hgn : decide (0 < k) = false := by simp; omega
            have hl0 : l = [] := List.eq_nil_of_length_eq_zero (by rw [HLN.out]; exact h0)
            have HPN : Hid (pLoop b (m - (k + 1)) (.ok a3) (l ++ [x]) = (FS, FL)) := Lib.hid (by
              have h9 := HP2
              rw [show l.getLast? = none by rw [hl0]; rfl, hitR_none, HHS.out] at h9
              exact h9)
            clear h0 hl0 HP2
            go_quiet (fail)
            have OF := Lib.hid (own_belowAll OD.out (drewN_below wD.heap.size wD nq))
            have HRF := Lib.hid (HD.out.of (w' := wD.drewN nq) rfl)
            have GF := Lib.hid (grown_belowW GD.out (drewN_below g0 wD nq) (by rw [HG0.out]; exact Nat.le_refl _))
            have KF : Hid ((wD.drewN nq).heap[q]? = some (.cells #[.int .i64 x.d, .int .i64 x.i, .string x.c] 35 (0, 0))) := Lib.hid KD.out
            have hszF : g0 ≤ (wD.drewN nq).heap.size := hszD
            generalize wD.drewN nq = wF at OF HRF GF KF hszF ⊢
            have x0 : wF.cell? ⟨q, 0, none⟩ = some (.int .i64 x.d) := by unfold World.cell?; rw [KF.out]; rfl
            have x1 : wF.cell? ⟨q, 1, none⟩ = some (.int .i64 x.i) := by unfold World.cell?; rw [KF.out]; rfl
            have x2 : wF.cell? ⟨q, 2, none⟩ = some (.string x.c) := by unfold World.cell?; rw [KF.out]; rfl
            have chk1 : (k + 1) * 32 ≤ 140737488355328 := by omega
            have chk2 : k + 1 ≤ maxLen := by unfold maxLen; omega
            have chk3 : ∀ j u, x.cells[j]? = some u → (wF.alloc (.cells #[.int .i64 x.d, .int .i64 x.i, .string x.c] 35)).cell? ((⟨wF.heap.size, 0, none⟩ : Addr).add j) = some u := World.news_of_block (heap_alloc_last wF _)
            have chk4 : ∀ u ∈ x.cells, u.oneCell' = true := by simp [Hv.cells, Value.oneCell']
            have chk5 : g0 ≤ (wF.alloc (.cells #[.int .i64 x.d, .int .i64 x.i, .string x.c] 35)).heap.size := by rw [World.size_alloc]; omega
            go_wp2_with (at_builtin; refine wpList_append_own _ rfl _ _ 31 rfl g0 35 i0 _ 3 32 Try.underlying31 hi hy0 hy1 hy2 rfl (by decide) _ k _ rfl (OF.out.alloc _) ⟨wF.heap.size, 0, none⟩ 1 1 x.cells rfl rfl chk3 chk4 chk2 chk1 chk5 ?_)
            intro v' w2 hown' hgrow _
            have hBg : Below g0 (wF.alloc (.cells #[.int .i64 x.d, .int .i64 x.i, .string x.c] 35)) w2 := grown_below (Below.refl _ _) hgrow (by rw [World.size_alloc]; omega) (fun k hk => (OF.out.lt k hk).1)
            have N1 : Hid (w2.ownsRow g0 35 3 v' (k + 1) (encH (l ++ [x]))) := Lib.hid (by rw [encH_snoc]; exact hown')
            have N2 : Hid (Rd w2 74 r b (.ok a3)) := Lib.hid (((HRF.out.of (Below.heap_alloc _ _ _ HRF.out.lt)).of (hBg.block _ (by omega))))
            have N3 : Hid (w.grownBy w2 (some r)) := Lib.hid (grown_belowW (GF.out) ((((Below.refl g0 wF).alloc hszF _)).trans hBg) (by rw [HG0.out]; exact Nat.le_refl _))
            have N4 : Hid ((l ++ [x]).length = k + 1) := Lib.hid (by rw [List.length_append, HLN.out]; rfl)
            clear hown' hgrow hBg
            go_wp2
            go_roundw
            case rel => exact ⟨k + 1, (.ok a3), l ++ [x], by omega, by go_num, N4, N1, N2, N3, HPN⟩
            case measure => simp [intOf]; omega
          · obtain ⟨d, hdk⟩ : ∃ d, k = d + 1 := ⟨k - 1, by omega⟩
            obtain ⟨y, hy⟩ : ∃ y, l[d]? = some y := ⟨_, List.getElem?_eq_getElem (by rw [HLN.out]; omega)⟩
            have HPN : Hid (pLoop b (m - (k + 1)) (rfS (!behB y x) 50 (.ok a3)) (l ++ [x]) = (FS, FL)) := Lib.hid (by
              have h9 := HP2
              have hl : l.getLast? = some y := by rw [List.getLast?_eq_getElem?, HLN.out, hdk]; exact hy
              have hxx := HHX.out
              rw [hl] at h9 hxx
              rw [hitR_rf, hxx, HHS.out] at h9
              exact h9)
            obtain ⟨p', cap, rfl, _, _, hrr⟩ := own_rd OD.out
            obtain ⟨gl, rfl, hgl0, hgl1, _, _⟩ := hrr (by omega)
            have s0 : wD.drew.cell? ⟨r, 2, none⟩ = some (.int .i64 0) ∧ wD.drew.cell? ⟨gl, d * 3, none⟩ = some (.int .i64 y.d) ∧ wD.drew.cell? ⟨gl, d * 3 + 1, none⟩ = some (.int .i64 y.i) ∧ wD.drew.cell? ⟨gl, d * 3 + 2, none⟩ = some (.string y.c) ∧ wD.drew.cell? ⟨q, 0, none⟩ = some (.int .i64 x.d) ∧ wD.drew.cell? ⟨q, 1, none⟩ = some (.int .i64 x.i) ∧ wD.drew.cell? ⟨q, 2, none⟩ = some (.string x.c) := three_at' (W := wD) (b := b) (s := .ok a3) OD.out hy KD.out c2
            have PS := Lib.hid (fun (wg : World) (bg : Below wD.drew.heap.size wD.drew wg) => three_at' (b := b) (s := .ok a3) (own_belowAll OD.out (show Below wD.heap.size wD wg from ⟨bg.os, bg.tape, bg.output, bg.size, bg.block⟩)) hy ((bg.block q hqD).trans KD.out) ((bg.cell (p := ⟨r, 2, none⟩) HD.out.lt).trans c2))
            have hg : decide (0 < (k : Int)) = true := by simp; omega
            have hgn : decide (0 < k) = true := by simp; omega
            have hki : (k : Int) - 1 = (d : Int) := by omega
            have hkw : IntKind.i64.wrap ((k : Int) - 1) = (d : Int) := by rw [hki, IntKind.wrap_i64]; omega
            have hdn2 : (d : Int) < (k : Int) := by omega
            have hd0 : (0 : Int) ≤ (d : Int) := by omega
            have HKD := Lib.hid hdk
            clear hki h0 hdk hrr HP2
            go_region_held3 (fun W => W.cell? ⟨r, 2, none⟩ = some (.int .i64 0) ∧ W.cell? ⟨gl, d * 3, none⟩ = some (.int .i64 y.d) ∧ W.cell? ⟨gl, d * 3 + 1, none⟩ = some (.int .i64 y.i) ∧ W.cell? ⟨gl, d * 3 + 2, none⟩ = some (.string y.c) ∧ W.cell? ⟨q, 0, none⟩ = some (.int .i64 x.d) ∧ W.cell? ⟨q, 1, none⟩ = some (.int .i64 x.i) ∧ W.cell? ⟨q, 2, none⟩ = some (.string x.c))
              (first | with_reducible exact s0 | with_reducible exact sg | fail)
              (first | (go_at_call 87; refine (WB.out y x _).mono ?_; rintro _ wg ⟨rfl, bg⟩; have sg := PS.out wg bg))
            have bg' : Below wD.heap.size wD wg := ⟨bg.os, bg.tape, bg.output, bg.size, bg.block⟩
            have OF := Lib.hid (own_belowAll OD.out bg')
            have HRF := Lib.hid (HD.out.of (bg'.block _ HD.out.lt))
            have GF := Lib.hid (grown_belowW GD.out (show Below g0 wD wg from ⟨bg.os, bg.tape, bg.output, bg.size, fun k hk => bg.block k (Nat.lt_of_lt_of_le hk hszD)⟩) (by rw [HG0.out]; exact Nat.le_refl _))
            have KF : Hid (wg.heap[q]? = some (.cells #[.int .i64 x.d, .int .i64 x.i, .string x.c] 35 (0, 0))) := Lib.hid ((bg.block q hqD).trans KD.out)
            have hszF : g0 ≤ wg.heap.size := Nat.le_trans hszD bg.size
            clear s0 sg PS bg bg' hy hg hgn hkw hdn2 c2 kd0 kd1 kd2 OD HD GD KD hqD hszD
            obtain ⟨bb, hbb⟩ : ∃ bb, behB y x = bb := ⟨_, rfl⟩
            rw [hbb] at HPN ⊢
            clear hbb
            cases bb
            · have RF1 := Lib.hid (RF.out a3 wg HRF.out.2)
              go_wp2_with fail
              refine RF1.out.mono ?_
              rintro _ wF ⟨rfl, hf1, hf⟩
              have OF0 := OF
              have GF0 := GF
              have KF0 := KF
              have OF := Lib.hid (own_grown OF0.out hf (fun g hg e => by cases e; have := (OF0.out.lt _ hg).1; omega))
              have HRF : Hid (Rd wF 74 r b (.error 50)) := Lib.hid ⟨by decide, a3, hf1⟩
              have GF := Lib.hid (grown_trans GF0.out hf)
              have KF : Hid (wF.heap[q]? = some (.cells #[.int .i64 x.d, .int .i64 x.i, .string x.c] 35 (0, 0))) := Lib.hid ((hf.block q (Array.getElem?_eq_some_iff.1 KF0.out).1 (fun e => hrq (Option.some.inj e).symm)).trans KF0.out)
              have hszF : g0 ≤ wF.heap.size := Nat.le_trans hszF hf.size
              clear OF0 GF0 KF0 hf hf1 RF1
              have x0 : wF.cell? ⟨q, 0, none⟩ = some (.int .i64 x.d) := by unfold World.cell?; rw [KF.out]; rfl
              have x1 : wF.cell? ⟨q, 1, none⟩ = some (.int .i64 x.i) := by unfold World.cell?; rw [KF.out]; rfl
              have x2 : wF.cell? ⟨q, 2, none⟩ = some (.string x.c) := by unfold World.cell?; rw [KF.out]; rfl
              have chk1 : (k + 1) * 32 ≤ 140737488355328 := by omega
              have chk2 : k + 1 ≤ maxLen := by unfold maxLen; omega
              have chk3 : ∀ j u, x.cells[j]? = some u → (wF.alloc (.cells #[.int .i64 x.d, .int .i64 x.i, .string x.c] 35)).cell? ((⟨wF.heap.size, 0, none⟩ : Addr).add j) = some u := World.news_of_block (heap_alloc_last wF _)
              have chk4 : ∀ u ∈ x.cells, u.oneCell' = true := by simp [Hv.cells, Value.oneCell']
              have chk5 : g0 ≤ (wF.alloc (.cells #[.int .i64 x.d, .int .i64 x.i, .string x.c] 35)).heap.size := by rw [World.size_alloc]; omega
              go_wp2_with (at_builtin; refine wpList_append_own _ rfl _ _ 31 rfl g0 35 i0 _ 3 32 Try.underlying31 hi hy0 hy1 hy2 rfl (by decide) _ k _ rfl (OF.out.alloc _) ⟨wF.heap.size, 0, none⟩ 1 1 x.cells rfl rfl chk3 chk4 chk2 chk1 chk5 ?_)
              intro v' w2 hown' hgrow _
              have hBg : Below g0 (wF.alloc (.cells #[.int .i64 x.d, .int .i64 x.i, .string x.c] 35)) w2 := grown_below (Below.refl _ _) hgrow (by rw [World.size_alloc]; omega) (fun k hk => (OF.out.lt k hk).1)
              have N1 : Hid (w2.ownsRow g0 35 3 v' (k + 1) (encH (l ++ [x]))) := Lib.hid (by rw [encH_snoc]; exact hown')
              have N2 : Hid (Rd w2 74 r b (.error 50)) := Lib.hid (((HRF.out.of (Below.heap_alloc _ _ _ HRF.out.lt)).of (hBg.block _ (by omega))))
              have N3 : Hid (w.grownBy w2 (some r)) := Lib.hid (grown_belowW (GF.out) ((((Below.refl g0 wF).alloc hszF _)).trans hBg) (by rw [HG0.out]; exact Nat.le_refl _))
              have N4 : Hid ((l ++ [x]).length = k + 1) := Lib.hid (by rw [List.length_append, HLN.out]; rfl)
              clear hown' hgrow hBg
              go_wp2
              go_roundw
              case rel => exact ⟨k + 1, (.error 50), l ++ [x], by omega, by go_num, N4, N1, N2, N3, HPN⟩
              case measure => simp [intOf]; omega
            · have HRF := HRF
              obtain ⟨wF, hwF⟩ : ∃ wF, wF = wg := ⟨_, rfl⟩
              rw [← hwF] at OF HRF GF KF hszF ⊢
              clear hwF
              have x0 : wF.cell? ⟨q, 0, none⟩ = some (.int .i64 x.d) := by unfold World.cell?; rw [KF.out]; rfl
              have x1 : wF.cell? ⟨q, 1, none⟩ = some (.int .i64 x.i) := by unfold World.cell?; rw [KF.out]; rfl
              have x2 : wF.cell? ⟨q, 2, none⟩ = some (.string x.c) := by unfold World.cell?; rw [KF.out]; rfl
              have chk1 : (k + 1) * 32 ≤ 140737488355328 := by omega
              have chk2 : k + 1 ≤ maxLen := by unfold maxLen; omega
              have chk3 : ∀ j u, x.cells[j]? = some u → (wF.alloc (.cells #[.int .i64 x.d, .int .i64 x.i, .string x.c] 35)).cell? ((⟨wF.heap.size, 0, none⟩ : Addr).add j) = some u := World.news_of_block (heap_alloc_last wF _)
              have chk4 : ∀ u ∈ x.cells, u.oneCell' = true := by simp [Hv.cells, Value.oneCell']
              have chk5 : g0 ≤ (wF.alloc (.cells #[.int .i64 x.d, .int .i64 x.i, .string x.c] 35)).heap.size := by rw [World.size_alloc]; omega
              go_wp2_with (at_builtin; refine wpList_append_own _ rfl _ _ 31 rfl g0 35 i0 _ 3 32 Try.underlying31 hi hy0 hy1 hy2 rfl (by decide) _ k _ rfl (OF.out.alloc _) ⟨wF.heap.size, 0, none⟩ 1 1 x.cells rfl rfl chk3 chk4 chk2 chk1 chk5 ?_)
              intro v' w2 hown' hgrow _
              have hBg : Below g0 (wF.alloc (.cells #[.int .i64 x.d, .int .i64 x.i, .string x.c] 35)) w2 := grown_below (Below.refl _ _) hgrow (by rw [World.size_alloc]; omega) (fun k hk => (OF.out.lt k hk).1)
              have N1 : Hid (w2.ownsRow g0 35 3 v' (k + 1) (encH (l ++ [x]))) := Lib.hid (by rw [encH_snoc]; exact hown')
              have N2 : Hid (Rd w2 74 r b (.ok a3)) := Lib.hid (((HRF.out.of (Below.heap_alloc _ _ _ HRF.out.lt)).of (hBg.block _ (by omega))))
              have N3 : Hid (w.grownBy w2 (some r)) := Lib.hid (grown_belowW (GF.out) ((((Below.refl g0 wF).alloc hszF _)).trans hBg) (by rw [HG0.out]; exact Nat.le_refl _))
              have N4 : Hid ((l ++ [x]).length = k + 1) := Lib.hid (by rw [List.length_append, HLN.out]; rfl)
              clear hown' hgrow hBg
              go_wp2
              go_roundw
              case rel => exact ⟨k + 1, (.ok a3), l ++ [x], by omega, by go_num, N4, N1, N2, N3, HPN⟩
              case measure => simp [intOf]; omega
    · obtain rfl : k = m := by omega
      have hd : decide ((k : Int) < (k : Int)) = false := by simp
      have hdn : decide (k < k) = false := by simp
      have hp := HP.out
      rw [Nat.sub_self] at hp
      obtain ⟨rfl, rfl⟩ := Prod.mk.inj hp
      clear hp
      go_wp2
      go_ret
      exact ⟨_, rfl, by rw [HLN.out]; exact HO.out, HRd.out, HGr.out⟩
theorem rhits_calls (r : Nat) (b : ByteArray) (hb : b.size ≤ 4611686018427387904) (s : St) (w : World) (h : Rd w 74 r b s) :
    Calls Try.prog 43 #[.pointer (some ⟨r, 0, none⟩)] w fun x w' => ∃ v, x = .returned v ∧ w'.ownsRow w.heap.size 35 3 v (pHits b s).2.length (encH (pHits b s).2) ∧ Rd w' 74 r b (pHits b s).1 ∧ w.grownBy w' (some r) := by
  rcases pNum_43 b s with ⟨a, n, h1, h2, h3⟩ | ⟨_, h1⟩
  · have e : pHits b s = (.error 43, []) := by unfold pHits; rw [h3]; rfl
    rw [e]
    exact rhits_many r b hb s a n h1 h2 w h
  · exact rhits_few r b hb s w h h1
end Go.Proofs.Ytabhjkaheghbhaa

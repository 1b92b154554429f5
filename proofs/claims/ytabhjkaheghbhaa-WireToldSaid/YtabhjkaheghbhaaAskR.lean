/-
  WALKS: the document's Ask. (Printed by askrgen.py.)
-/
import Derived.Test.YtabhjkaheghbhaaAskW
import Derived.Test.YtabhjkaheghbhaaRefA
import Derived.Deep.DeepCutAuto
namespace Go.Proofs.Ytabhjkaheghbhaa
open Go.RowKit
set_option linter.unusedVariables false

theorem bne_bytes (a b : ByteArray) : (a != b) = decide (a ≠ b) := by
  have h : (a == b) = decide (a = b) := by
    rw [beq_toListBytes, ByteArray.toList_eq, ByteArray.toList_eq]
    by_cases e : a = b
    · subst e; simp
    · have : ¬ a.data.toList = b.data.toList := fun h => e (ByteArray.ext (Array.toList_inj.1 h))
      rw [beq_eq_false_iff_ne.2 this]
      simp [e]
  unfold bne
  rw [h]
  by_cases e : a = b <;> simp [e]
theorem rnum_calls (n : Int) (w : World) :
    Calls Try.prog 38 #[.int .i64 n] w fun x w' => x = .returned (.string ⟨(vNum n).toArray⟩) ∧ Below w.heap.size w w' := by
  obtain ⟨v, hv, hv64⟩ := wrap_u64_nat n
  unfold vNum
  rw [hv]
  simp only [Int.toNat_natCast]
  have P := Lib.hid (RefPutVar_calls v hv64)
  go_enter Try.func38, Try.ntmps38
  go_wp2_with fail
  refine (P.out _).mono ?_
  rintro x w1 ⟨rfl, hb⟩
  go_wp2
  go_ret
  exact ⟨rfl, hb⟩
theorem rtxt_calls (s : ByteArray) (hs : s.size ≤ 140737488351232) (w : World) :
    Calls Try.prog 40 #[.string s] w fun x w' => x = .returned (.string ⟨(vNum s.size ++ s.data.toList).toArray⟩) ∧ Below w.heap.size w w' := by
  have P := Lib.hid (rnum_calls s.size)
  have e : (⟨(vNum s.size).toArray⟩ ++ s : ByteArray) = ⟨(vNum s.size ++ s.data.toList).toArray⟩ := str_of_data (by rw [cat_data])
  rw [← e]
  have hl := vNum_len s.size
  have hz : (⟨(vNum s.size).toArray⟩ : ByteArray).size = (vNum s.size).length := rfl
  have hb0 : ¬ ((⟨(vNum s.size).toArray⟩ : ByteArray).size + s.size > 9223372036854775807) := by omega
  generalize (⟨(vNum s.size).toArray⟩ : ByteArray) = u at P hb0 ⊢
  clear hl hz e
  go_enter Try.func40, Try.ntmps40
  go_wp2_with fail
  refine (P.out _).mono ?_
  rintro x w1 ⟨rfl, hb⟩
  go_wp2
  go_ret
  exact ⟨rfl, hb⟩

set_option maxRecDepth 100000 in
set_option maxHeartbeats 1000000 in
theorem rask_1 (op : Int) (hop : 1 ≤ op ∧ op ≤ 9) (hnm : nm op = (true, true, false, false)) (id : Int) (c : ByteArray) (k rr : Int) (hc : c.size ≤ 140737488351232) (w : World) :
    Calls Try.prog 21 #[.agg #[.int .i64 op, .int .i64 id, .string c, .int .i64 k, .int .i64 rr]] w fun x w' => x = .returned (.tuple #[.string ⟨(askO true true false false op id c k rr).1.toArray⟩, .int .i64 (askO true true false false op id c k rr).2]) ∧ Below w.heap.size w w' := by
  have N := Lib.hid (fun W => names_calls op W)
  rw [hnm] at N
  have RN := Lib.hid (fun n W => rnum_calls n W)
  have RT := Lib.hid (fun W => rtxt_calls c hc W)
  have o1 : decide (op < 1) = false := by simp; omega
  have o2 : decide (9 < op) = false := by simp; omega
  have HBq := Lib.hid ((Below.refl w.heap.size w).alloc (Nat.le_refl _) (.cells #[.int .i64 op, .int .i64 id, .string c, .int .i64 k, .int .i64 rr] 24))
  have HQ := Lib.hid (rq_box w op id c k rr)
  obtain ⟨res, hres⟩ : ∃ res, askO true true false false op id c k rr = res := ⟨_, rfl⟩
  rw [hres]
  unfold askO at hres
  have hwo : IntKind.u8.wrap op = op := by rw [IntKind.wrap_u8]; omega
  have hv : (#[.int .u8 81, .int .u8 op] : Array Value) = (([81, UInt8.ofNat op.toNat] : List UInt8).map by8).toArray := by
    have ht : ((UInt8.ofNat op.toNat).toNat : Int) = op := by rw [u8ofNat_toNat _ (by omega)]; omega
    simp only [List.map_cons, List.map_nil, by8, ht]
    rfl
  have HL := Lib.hid (fun W => lit_toStr (P := Try.prog) 83 9 5 Try.underlying83 Try.underlying5 Try.underlying9 W 5 [81, UInt8.ofNat op.toNat] #[.int .u8 81, .int .u8 op] hv 2 rfl)
  clear hv hnm
  go_enter Try.func21, Try.ntmps21
  go_wp2_with fail
  refine (N.out _).mono ?_
  rintro x y ⟨rfl, rfl⟩
  generalize w.alloc (.cells #[.int .i64 op, .int .i64 id, .string c, .int .i64 k, .int .i64 rr] 24) = w1 at HBq HQ ⊢
  obtain ⟨q0, q1, q2, q3, q4, _⟩ := HQ.out.cells
  have hqs := HQ.out.lt
  obtain ⟨fb, hfb⟩ : ∃ fb, askF true true false false id c k rr = fb := ⟨_, rfl⟩
  rw [hfb] at hres
  unfold askF at hfb
  go_upto_region 4 with fail
  go_cut [58] (fun s58 wx => s58 = .bool fb ∧ wx = w1)
  case first =>
    by_cases z3 : k = 0
    · skip
      have y3 : (k != 0) = false := by rw [bne_eq_false_iff_eq]; exact z3
      by_cases z4 : rr = 0
      · skip
        have y4 : (rr != 0) = false := by rw [bne_eq_false_iff_eq]; exact z4
        clear hres
        have hfc : fb = false := by rw [← hfb]; simp [z3, z4]
        subst hfc
        clear z3 z4
        go_wp2_with fail
        go_meet
        exact ⟨rfl, rfl⟩
      · have y4 : (rr != 0) = true := by rw [bne_iff_ne]; exact z4
        clear hres
        have hfc : fb = true := by rw [← hfb]; simp [z4]
        subst hfc
        clear z3 z4
        go_wp2_with fail
        go_meet
        exact ⟨rfl, rfl⟩
    · have y3 : (k != 0) = true := by rw [bne_iff_ne]; exact z3
      clear hres
      have hfc : fb = true := by rw [← hfb]; simp [z3]
      subst hfc
      clear z3
      go_wp2_with fail
      go_meet
      exact ⟨rfl, rfl⟩
  case rest =>
    obtain ⟨rfl, rfl⟩ := hcut
    clear hfb
    cases fb
    · rw [if_neg (by decide)] at hres
      obtain ⟨e, he⟩ : ∃ e, lowE id c k rr = e := ⟨_, rfl⟩
      rw [he] at hres
      unfold lowE at he
      by_cases lid : id < 0
      · have did : decide (id < 0) = true := by simpa using lid
        rw [if_pos (Or.inl lid)] at he
        subst he
        rw [if_pos (by decide)] at hres
        subst hres
        clear lid
        go_wp2
        go_ret2
        exact ⟨rfl, HBq.out⟩
      have did : decide (id < 0) = false := by simpa using lid
      by_cases lk : k < 0
      · have dk : decide (k < 0) = true := by simpa using lk
        rw [if_pos (Or.inr (Or.inl lk))] at he
        subst he
        rw [if_pos (by decide)] at hres
        subst hres
        clear lk
        go_wp2
        go_ret2
        exact ⟨rfl, HBq.out⟩
      have dk : decide (k < 0) = false := by simpa using lk
      by_cases lrr : rr < 0
      · have drr : decide (rr < 0) = true := by simpa using lrr
        rw [if_pos (Or.inr (Or.inr lrr))] at he
        subst he
        rw [if_pos (by decide)] at hres
        subst hres
        clear lrr
        go_wp2
        go_ret2
        exact ⟨rfl, HBq.out⟩
      have drr : decide (rr < 0) = false := by simpa using lrr
      rw [if_neg (fun h => by rcases h with h | h | h <;> contradiction)] at he
      by_cases lc : 65536 < c.size
      · have dc : decide (65536 < (c.size : Int)) = true := by simp; omega
        rw [if_pos lc] at he
        subst he
        rw [if_pos (by decide)] at hres
        subst hres
        clear lc
        go_wp2
        go_ret2
        exact ⟨rfl, HBq.out⟩
      have dc : decide (65536 < (c.size : Int)) = false := by simp; omega
      rw [if_neg lc] at he
      subst he
      rw [if_neg (by decide)] at hres
      subst hres
      have HLs := HL.out wc
      clear lid lk lrr lc
      obtain ⟨u0, hu0⟩ : ∃ u0 : ByteArray, ⟨[81, UInt8.ofNat op.toNat].toArray⟩ = u0 := ⟨_, rfl⟩
      have d0 : u0.data.toList = [81, UInt8.ofNat op.toNat] := by rw [← hu0]
      have s0 : u0.size = 2 := by rw [← hu0]; rfl
      rw [hu0] at HLs
      have R1 := RN.out id
      obtain ⟨u1, hu1⟩ : ∃ u1 : ByteArray, ⟨(vNum id).toArray⟩ = u1 := ⟨_, rfl⟩
      have d1 : u1.data.toList = vNum id := by rw [← hu1]
      have s1 : u1.size ≤ 10 := by rw [← hu1]; exact vNum_len id
      rw [hu1] at R1
      have e1 : ¬ (u0.size + u1.size > 9223372036854775807) := by omega
      have g1 : ¬ (9223372036854775807 < u0.size + u1.size) := by omega
      have HR1 := Lib.hid R1
      have R2 := RT.out
      obtain ⟨u2, hu2⟩ : ∃ u2 : ByteArray, ⟨(vNum c.size ++ c.data.toList).toArray⟩ = u2 := ⟨_, rfl⟩
      have d2 : u2.data.toList = vNum c.size ++ c.data.toList := by rw [← hu2]
      have s2 : u2.size ≤ 140737488351242 := by have := vNum_len c.size; have e1 : u2.size = (vNum c.size).length + c.size := (by rw [← hu2]; simp only [ByteArray.size, List.size_toArray, List.length_append, Array.length_toList]); omega
      rw [hu2] at R2
      have e2 : ¬ ((u0 ++ u1).size + u2.size > 9223372036854775807) := by rw [ByteArray.size_append]; omega
      have g2 : ¬ (9223372036854775807 < u0.size + u1.size + u2.size) := by omega
      have HR2 := Lib.hid R2
      have hout : (u0 ++ u1 ++ u2) = ⟨(askB true true false false op id c k rr).toArray⟩ := str_of_data (by simp only [cat_data, d0, d1, d2]; simp [askB, numIf, textIf])
      have HO := Lib.hid hout
      clear hout d0 s0 hu0 d1 s1 hu1 d2 s2 hu2 R1 R2
      have HX0 := Lib.hid (HBq.out.alloc (HBq.out.size) (.cells #[.int .u8 81, .int .u8 op] 5))
      have HY0 := Lib.hid (HQ.out.alloc (.cells #[.int .u8 81, .int .u8 op] 5))
      clear q0 q1 q2 q3 q4 hqs
      obtain ⟨q0, q1, q2, q3, q4, _⟩ := HQ.out.cells
      have hqa : ∀ o j, (wc.alloc o).cell? ⟨w.heap.size, j, none⟩ = wc.cell? ⟨w.heap.size, j, none⟩ := fun o j => World.cell?_alloc_lt _ _ _ HQ.out.lt
      go_wp2_with fail
      refine (HR1.out _).mono ?_
      rintro x v1 ⟨rfl, k1⟩
      have HX1 := Lib.hid (HX0.out.trans (k1.mono (Nat.le_of_lt HY0.out.lt)))
      have HY1 := Lib.hid (HY0.out.of (k1.block _ HY0.out.lt))
      clear k1 q0 q1 q2 q3 q4
      obtain ⟨q0, q1, q2, q3, q4, _⟩ := HY1.out.cells
      go_wp2_with fail
      refine (HR2.out _).mono ?_
      rintro x v2 ⟨rfl, k2⟩
      have HX2 := Lib.hid (HX1.out.trans (k2.mono (Nat.le_of_lt HY1.out.lt)))
      have HY2 := Lib.hid (HY1.out.of (k2.block _ HY1.out.lt))
      clear k2 q0 q1 q2 q3 q4
      obtain ⟨q0, q1, q2, q3, q4, _⟩ := HY2.out.cells
      go_wp2
      go_ret2
      exact ⟨by rw [← HO.out]; rfl, HX2.out⟩
    · rw [if_pos rfl] at hres
      subst hres
      go_wp2
      go_ret2
      exact ⟨rfl, HBq.out⟩

set_option maxRecDepth 100000 in
set_option maxHeartbeats 1000000 in
theorem rask_2 (op : Int) (hop : 1 ≤ op ∧ op ≤ 9) (hnm : nm op = (true, false, false, false)) (id : Int) (c : ByteArray) (k rr : Int) (hc : c.size ≤ 140737488351232) (w : World) :
    Calls Try.prog 21 #[.agg #[.int .i64 op, .int .i64 id, .string c, .int .i64 k, .int .i64 rr]] w fun x w' => x = .returned (.tuple #[.string ⟨(askO true false false false op id c k rr).1.toArray⟩, .int .i64 (askO true false false false op id c k rr).2]) ∧ Below w.heap.size w w' := by
  have N := Lib.hid (fun W => names_calls op W)
  rw [hnm] at N
  have RN := Lib.hid (fun n W => rnum_calls n W)
  have RT := Lib.hid (fun W => rtxt_calls c hc W)
  have o1 : decide (op < 1) = false := by simp; omega
  have o2 : decide (9 < op) = false := by simp; omega
  have HBq := Lib.hid ((Below.refl w.heap.size w).alloc (Nat.le_refl _) (.cells #[.int .i64 op, .int .i64 id, .string c, .int .i64 k, .int .i64 rr] 24))
  have HQ := Lib.hid (rq_box w op id c k rr)
  obtain ⟨res, hres⟩ : ∃ res, askO true false false false op id c k rr = res := ⟨_, rfl⟩
  rw [hres]
  unfold askO at hres
  have hwo : IntKind.u8.wrap op = op := by rw [IntKind.wrap_u8]; omega
  have hv : (#[.int .u8 81, .int .u8 op] : Array Value) = (([81, UInt8.ofNat op.toNat] : List UInt8).map by8).toArray := by
    have ht : ((UInt8.ofNat op.toNat).toNat : Int) = op := by rw [u8ofNat_toNat _ (by omega)]; omega
    simp only [List.map_cons, List.map_nil, by8, ht]
    rfl
  have HL := Lib.hid (fun W => lit_toStr (P := Try.prog) 83 9 5 Try.underlying83 Try.underlying5 Try.underlying9 W 5 [81, UInt8.ofNat op.toNat] #[.int .u8 81, .int .u8 op] hv 2 rfl)
  clear hv hnm
  go_enter Try.func21, Try.ntmps21
  go_wp2_with fail
  refine (N.out _).mono ?_
  rintro x y ⟨rfl, rfl⟩
  generalize w.alloc (.cells #[.int .i64 op, .int .i64 id, .string c, .int .i64 k, .int .i64 rr] 24) = w1 at HBq HQ ⊢
  obtain ⟨q0, q1, q2, q3, q4, _⟩ := HQ.out.cells
  have hqs := HQ.out.lt
  obtain ⟨fb, hfb⟩ : ∃ fb, askF true false false false id c k rr = fb := ⟨_, rfl⟩
  rw [hfb] at hres
  unfold askF at hfb
  go_upto_region 4 with fail
  go_cut [58] (fun s58 wx => s58 = .bool fb ∧ wx = w1)
  case first =>
    by_cases z2 : c = ⟨#[]⟩
    · skip
      have y2 : c.toList.isEmpty = true := by rw [ByteArray.toList_eq, z2]; rfl
      by_cases z3 : k = 0
      · skip
        have y3 : (k != 0) = false := by rw [bne_eq_false_iff_eq]; exact z3
        by_cases z4 : rr = 0
        · skip
          have y4 : (rr != 0) = false := by rw [bne_eq_false_iff_eq]; exact z4
          clear hres
          have hfc : fb = false := by rw [← hfb]; simp [z2, z3, z4]
          subst hfc
          clear z2 z3 z4
          go_wp2_with fail
          go_meet
          exact ⟨rfl, rfl⟩
        · have y4 : (rr != 0) = true := by rw [bne_iff_ne]; exact z4
          clear hres
          have hfc : fb = true := by rw [← hfb]; simp [z4]
          subst hfc
          clear z2 z3 z4
          go_wp2_with fail
          go_meet
          exact ⟨rfl, rfl⟩
      · have y3 : (k != 0) = true := by rw [bne_iff_ne]; exact z3
        clear hres
        have hfc : fb = true := by rw [← hfb]; simp [z3]
        subst hfc
        clear z2 z3
        go_wp2_with fail
        go_meet
        exact ⟨rfl, rfl⟩
    · have y2 : c.toList.isEmpty = false := by rw [ByteArray.toList_eq, List.isEmpty_eq_false_iff]; intro h; exact z2 (ByteArray.ext (Array.toList_inj.1 h))
      clear hres
      have hfc : fb = true := by rw [← hfb]; simp [z2]
      subst hfc
      clear z2
      go_wp2_with fail
      go_meet
      exact ⟨rfl, rfl⟩
  case rest =>
    obtain ⟨rfl, rfl⟩ := hcut
    clear hfb
    cases fb
    · rw [if_neg (by decide)] at hres
      obtain ⟨e, he⟩ : ∃ e, lowE id c k rr = e := ⟨_, rfl⟩
      rw [he] at hres
      unfold lowE at he
      by_cases lid : id < 0
      · have did : decide (id < 0) = true := by simpa using lid
        rw [if_pos (Or.inl lid)] at he
        subst he
        rw [if_pos (by decide)] at hres
        subst hres
        clear lid
        go_wp2
        go_ret2
        exact ⟨rfl, HBq.out⟩
      have did : decide (id < 0) = false := by simpa using lid
      by_cases lk : k < 0
      · have dk : decide (k < 0) = true := by simpa using lk
        rw [if_pos (Or.inr (Or.inl lk))] at he
        subst he
        rw [if_pos (by decide)] at hres
        subst hres
        clear lk
        go_wp2
        go_ret2
        exact ⟨rfl, HBq.out⟩
      have dk : decide (k < 0) = false := by simpa using lk
      by_cases lrr : rr < 0
      · have drr : decide (rr < 0) = true := by simpa using lrr
        rw [if_pos (Or.inr (Or.inr lrr))] at he
        subst he
        rw [if_pos (by decide)] at hres
        subst hres
        clear lrr
        go_wp2
        go_ret2
        exact ⟨rfl, HBq.out⟩
      have drr : decide (rr < 0) = false := by simpa using lrr
      rw [if_neg (fun h => by rcases h with h | h | h <;> contradiction)] at he
      by_cases lc : 65536 < c.size
      · have dc : decide (65536 < (c.size : Int)) = true := by simp; omega
        rw [if_pos lc] at he
        subst he
        rw [if_pos (by decide)] at hres
        subst hres
        clear lc
        go_wp2
        go_ret2
        exact ⟨rfl, HBq.out⟩
      have dc : decide (65536 < (c.size : Int)) = false := by simp; omega
      rw [if_neg lc] at he
      subst he
      rw [if_neg (by decide)] at hres
      subst hres
      have HLs := HL.out wc
      clear lid lk lrr lc
      obtain ⟨u0, hu0⟩ : ∃ u0 : ByteArray, ⟨[81, UInt8.ofNat op.toNat].toArray⟩ = u0 := ⟨_, rfl⟩
      have d0 : u0.data.toList = [81, UInt8.ofNat op.toNat] := by rw [← hu0]
      have s0 : u0.size = 2 := by rw [← hu0]; rfl
      rw [hu0] at HLs
      have R1 := RN.out id
      obtain ⟨u1, hu1⟩ : ∃ u1 : ByteArray, ⟨(vNum id).toArray⟩ = u1 := ⟨_, rfl⟩
      have d1 : u1.data.toList = vNum id := by rw [← hu1]
      have s1 : u1.size ≤ 10 := by rw [← hu1]; exact vNum_len id
      rw [hu1] at R1
      have e1 : ¬ (u0.size + u1.size > 9223372036854775807) := by omega
      have g1 : ¬ (9223372036854775807 < u0.size + u1.size) := by omega
      have HR1 := Lib.hid R1
      have hout : (u0 ++ u1) = ⟨(askB true false false false op id c k rr).toArray⟩ := str_of_data (by simp only [cat_data, d0, d1]; simp [askB, numIf, textIf])
      have HO := Lib.hid hout
      clear hout d0 s0 hu0 d1 s1 hu1 R1
      have HX0 := Lib.hid (HBq.out.alloc (HBq.out.size) (.cells #[.int .u8 81, .int .u8 op] 5))
      have HY0 := Lib.hid (HQ.out.alloc (.cells #[.int .u8 81, .int .u8 op] 5))
      clear q0 q1 q2 q3 q4 hqs
      obtain ⟨q0, q1, q2, q3, q4, _⟩ := HQ.out.cells
      have hqa : ∀ o j, (wc.alloc o).cell? ⟨w.heap.size, j, none⟩ = wc.cell? ⟨w.heap.size, j, none⟩ := fun o j => World.cell?_alloc_lt _ _ _ HQ.out.lt
      go_wp2_with fail
      refine (HR1.out _).mono ?_
      rintro x v1 ⟨rfl, k1⟩
      have HX1 := Lib.hid (HX0.out.trans (k1.mono (Nat.le_of_lt HY0.out.lt)))
      have HY1 := Lib.hid (HY0.out.of (k1.block _ HY0.out.lt))
      clear k1 q0 q1 q2 q3 q4
      obtain ⟨q0, q1, q2, q3, q4, _⟩ := HY1.out.cells
      go_wp2
      go_ret2
      exact ⟨by rw [← HO.out]; rfl, HX1.out⟩
    · rw [if_pos rfl] at hres
      subst hres
      go_wp2
      go_ret2
      exact ⟨rfl, HBq.out⟩

set_option maxRecDepth 100000 in
set_option maxHeartbeats 1000000 in
theorem rask_4 (op : Int) (hop : 1 ≤ op ∧ op ≤ 9) (hnm : nm op = (false, true, true, false)) (id : Int) (c : ByteArray) (k rr : Int) (hc : c.size ≤ 140737488351232) (w : World) :
    Calls Try.prog 21 #[.agg #[.int .i64 op, .int .i64 id, .string c, .int .i64 k, .int .i64 rr]] w fun x w' => x = .returned (.tuple #[.string ⟨(askO false true true false op id c k rr).1.toArray⟩, .int .i64 (askO false true true false op id c k rr).2]) ∧ Below w.heap.size w w' := by
  have N := Lib.hid (fun W => names_calls op W)
  rw [hnm] at N
  have RN := Lib.hid (fun n W => rnum_calls n W)
  have RT := Lib.hid (fun W => rtxt_calls c hc W)
  have o1 : decide (op < 1) = false := by simp; omega
  have o2 : decide (9 < op) = false := by simp; omega
  have HBq := Lib.hid ((Below.refl w.heap.size w).alloc (Nat.le_refl _) (.cells #[.int .i64 op, .int .i64 id, .string c, .int .i64 k, .int .i64 rr] 24))
  have HQ := Lib.hid (rq_box w op id c k rr)
  obtain ⟨res, hres⟩ : ∃ res, askO false true true false op id c k rr = res := ⟨_, rfl⟩
  rw [hres]
  unfold askO at hres
  have hwo : IntKind.u8.wrap op = op := by rw [IntKind.wrap_u8]; omega
  have hv : (#[.int .u8 81, .int .u8 op] : Array Value) = (([81, UInt8.ofNat op.toNat] : List UInt8).map by8).toArray := by
    have ht : ((UInt8.ofNat op.toNat).toNat : Int) = op := by rw [u8ofNat_toNat _ (by omega)]; omega
    simp only [List.map_cons, List.map_nil, by8, ht]
    rfl
  have HL := Lib.hid (fun W => lit_toStr (P := Try.prog) 83 9 5 Try.underlying83 Try.underlying5 Try.underlying9 W 5 [81, UInt8.ofNat op.toNat] #[.int .u8 81, .int .u8 op] hv 2 rfl)
  clear hv hnm
  go_enter Try.func21, Try.ntmps21
  go_wp2_with fail
  refine (N.out _).mono ?_
  rintro x y ⟨rfl, rfl⟩
  generalize w.alloc (.cells #[.int .i64 op, .int .i64 id, .string c, .int .i64 k, .int .i64 rr] 24) = w1 at HBq HQ ⊢
  obtain ⟨q0, q1, q2, q3, q4, _⟩ := HQ.out.cells
  have hqs := HQ.out.lt
  obtain ⟨fb, hfb⟩ : ∃ fb, askF false true true false id c k rr = fb := ⟨_, rfl⟩
  rw [hfb] at hres
  unfold askF at hfb
  go_upto_region 4 with fail
  go_cut [58] (fun s58 wx => s58 = .bool fb ∧ wx = w1)
  case first =>
    by_cases z1 : id = 0
    · skip
      have y1 : (id != 0) = false := by rw [bne_eq_false_iff_eq]; exact z1
      by_cases z4 : rr = 0
      · skip
        have y4 : (rr != 0) = false := by rw [bne_eq_false_iff_eq]; exact z4
        clear hres
        have hfc : fb = false := by rw [← hfb]; simp [z1, z4]
        subst hfc
        clear z1 z4
        go_wp2_with fail
        go_meet
        exact ⟨rfl, rfl⟩
      · have y4 : (rr != 0) = true := by rw [bne_iff_ne]; exact z4
        clear hres
        have hfc : fb = true := by rw [← hfb]; simp [z4]
        subst hfc
        clear z1 z4
        go_wp2_with fail
        go_meet
        exact ⟨rfl, rfl⟩
    · have y1 : (id != 0) = true := by rw [bne_iff_ne]; exact z1
      clear hres
      have hfc : fb = true := by rw [← hfb]; simp [z1]
      subst hfc
      clear z1
      go_wp2_with fail
      go_meet
      exact ⟨rfl, rfl⟩
  case rest =>
    obtain ⟨rfl, rfl⟩ := hcut
    clear hfb
    cases fb
    · rw [if_neg (by decide)] at hres
      obtain ⟨e, he⟩ : ∃ e, lowE id c k rr = e := ⟨_, rfl⟩
      rw [he] at hres
      unfold lowE at he
      by_cases lid : id < 0
      · have did : decide (id < 0) = true := by simpa using lid
        rw [if_pos (Or.inl lid)] at he
        subst he
        rw [if_pos (by decide)] at hres
        subst hres
        clear lid
        go_wp2
        go_ret2
        exact ⟨rfl, HBq.out⟩
      have did : decide (id < 0) = false := by simpa using lid
      by_cases lk : k < 0
      · have dk : decide (k < 0) = true := by simpa using lk
        rw [if_pos (Or.inr (Or.inl lk))] at he
        subst he
        rw [if_pos (by decide)] at hres
        subst hres
        clear lk
        go_wp2
        go_ret2
        exact ⟨rfl, HBq.out⟩
      have dk : decide (k < 0) = false := by simpa using lk
      by_cases lrr : rr < 0
      · have drr : decide (rr < 0) = true := by simpa using lrr
        rw [if_pos (Or.inr (Or.inr lrr))] at he
        subst he
        rw [if_pos (by decide)] at hres
        subst hres
        clear lrr
        go_wp2
        go_ret2
        exact ⟨rfl, HBq.out⟩
      have drr : decide (rr < 0) = false := by simpa using lrr
      rw [if_neg (fun h => by rcases h with h | h | h <;> contradiction)] at he
      by_cases lc : 65536 < c.size
      · have dc : decide (65536 < (c.size : Int)) = true := by simp; omega
        rw [if_pos lc] at he
        subst he
        rw [if_pos (by decide)] at hres
        subst hres
        clear lc
        go_wp2
        go_ret2
        exact ⟨rfl, HBq.out⟩
      have dc : decide (65536 < (c.size : Int)) = false := by simp; omega
      rw [if_neg lc] at he
      subst he
      rw [if_neg (by decide)] at hres
      subst hres
      have HLs := HL.out wc
      clear lid lk lrr lc
      obtain ⟨u0, hu0⟩ : ∃ u0 : ByteArray, ⟨[81, UInt8.ofNat op.toNat].toArray⟩ = u0 := ⟨_, rfl⟩
      have d0 : u0.data.toList = [81, UInt8.ofNat op.toNat] := by rw [← hu0]
      have s0 : u0.size = 2 := by rw [← hu0]; rfl
      rw [hu0] at HLs
      have R1 := RT.out
      obtain ⟨u1, hu1⟩ : ∃ u1 : ByteArray, ⟨(vNum c.size ++ c.data.toList).toArray⟩ = u1 := ⟨_, rfl⟩
      have d1 : u1.data.toList = vNum c.size ++ c.data.toList := by rw [← hu1]
      have s1 : u1.size ≤ 140737488351242 := by have := vNum_len c.size; have e1 : u1.size = (vNum c.size).length + c.size := (by rw [← hu1]; simp only [ByteArray.size, List.size_toArray, List.length_append, Array.length_toList]); omega
      rw [hu1] at R1
      have e1 : ¬ (u0.size + u1.size > 9223372036854775807) := by omega
      have g1 : ¬ (9223372036854775807 < u0.size + u1.size) := by omega
      have HR1 := Lib.hid R1
      have R2 := RN.out k
      obtain ⟨u2, hu2⟩ : ∃ u2 : ByteArray, ⟨(vNum k).toArray⟩ = u2 := ⟨_, rfl⟩
      have d2 : u2.data.toList = vNum k := by rw [← hu2]
      have s2 : u2.size ≤ 10 := by rw [← hu2]; exact vNum_len k
      rw [hu2] at R2
      have e2 : ¬ ((u0 ++ u1).size + u2.size > 9223372036854775807) := by rw [ByteArray.size_append]; omega
      have g2 : ¬ (9223372036854775807 < u0.size + u1.size + u2.size) := by omega
      have HR2 := Lib.hid R2
      have hout : (u0 ++ u1 ++ u2) = ⟨(askB false true true false op id c k rr).toArray⟩ := str_of_data (by simp only [cat_data, d0, d1, d2]; simp [askB, numIf, textIf])
      have HO := Lib.hid hout
      clear hout d0 s0 hu0 d1 s1 hu1 d2 s2 hu2 R1 R2
      have HX0 := Lib.hid (HBq.out.alloc (HBq.out.size) (.cells #[.int .u8 81, .int .u8 op] 5))
      have HY0 := Lib.hid (HQ.out.alloc (.cells #[.int .u8 81, .int .u8 op] 5))
      clear q0 q1 q2 q3 q4 hqs
      obtain ⟨q0, q1, q2, q3, q4, _⟩ := HQ.out.cells
      have hqa : ∀ o j, (wc.alloc o).cell? ⟨w.heap.size, j, none⟩ = wc.cell? ⟨w.heap.size, j, none⟩ := fun o j => World.cell?_alloc_lt _ _ _ HQ.out.lt
      go_wp2_with fail
      refine (HR1.out _).mono ?_
      rintro x v1 ⟨rfl, k1⟩
      have HX1 := Lib.hid (HX0.out.trans (k1.mono (Nat.le_of_lt HY0.out.lt)))
      have HY1 := Lib.hid (HY0.out.of (k1.block _ HY0.out.lt))
      clear k1 q0 q1 q2 q3 q4
      obtain ⟨q0, q1, q2, q3, q4, _⟩ := HY1.out.cells
      go_wp2_with fail
      refine (HR2.out _).mono ?_
      rintro x v2 ⟨rfl, k2⟩
      have HX2 := Lib.hid (HX1.out.trans (k2.mono (Nat.le_of_lt HY1.out.lt)))
      have HY2 := Lib.hid (HY1.out.of (k2.block _ HY1.out.lt))
      clear k2 q0 q1 q2 q3 q4
      obtain ⟨q0, q1, q2, q3, q4, _⟩ := HY2.out.cells
      go_wp2
      go_ret2
      exact ⟨by rw [← HO.out]; rfl, HX2.out⟩
    · rw [if_pos rfl] at hres
      subst hres
      go_wp2
      go_ret2
      exact ⟨rfl, HBq.out⟩

set_option maxRecDepth 100000 in
set_option maxHeartbeats 1000000 in
theorem rask_5 (op : Int) (hop : 1 ≤ op ∧ op ≤ 9) (hnm : nm op = (false, true, false, true)) (id : Int) (c : ByteArray) (k rr : Int) (hc : c.size ≤ 140737488351232) (w : World) :
    Calls Try.prog 21 #[.agg #[.int .i64 op, .int .i64 id, .string c, .int .i64 k, .int .i64 rr]] w fun x w' => x = .returned (.tuple #[.string ⟨(askO false true false true op id c k rr).1.toArray⟩, .int .i64 (askO false true false true op id c k rr).2]) ∧ Below w.heap.size w w' := by
  have N := Lib.hid (fun W => names_calls op W)
  rw [hnm] at N
  have RN := Lib.hid (fun n W => rnum_calls n W)
  have RT := Lib.hid (fun W => rtxt_calls c hc W)
  have o1 : decide (op < 1) = false := by simp; omega
  have o2 : decide (9 < op) = false := by simp; omega
  have HBq := Lib.hid ((Below.refl w.heap.size w).alloc (Nat.le_refl _) (.cells #[.int .i64 op, .int .i64 id, .string c, .int .i64 k, .int .i64 rr] 24))
  have HQ := Lib.hid (rq_box w op id c k rr)
  obtain ⟨res, hres⟩ : ∃ res, askO false true false true op id c k rr = res := ⟨_, rfl⟩
  rw [hres]
  unfold askO at hres
  have hwo : IntKind.u8.wrap op = op := by rw [IntKind.wrap_u8]; omega
  have hv : (#[.int .u8 81, .int .u8 op] : Array Value) = (([81, UInt8.ofNat op.toNat] : List UInt8).map by8).toArray := by
    have ht : ((UInt8.ofNat op.toNat).toNat : Int) = op := by rw [u8ofNat_toNat _ (by omega)]; omega
    simp only [List.map_cons, List.map_nil, by8, ht]
    rfl
  have HL := Lib.hid (fun W => lit_toStr (P := Try.prog) 83 9 5 Try.underlying83 Try.underlying5 Try.underlying9 W 5 [81, UInt8.ofNat op.toNat] #[.int .u8 81, .int .u8 op] hv 2 rfl)
  clear hv hnm
  go_enter Try.func21, Try.ntmps21
  go_wp2_with fail
  refine (N.out _).mono ?_
  rintro x y ⟨rfl, rfl⟩
  generalize w.alloc (.cells #[.int .i64 op, .int .i64 id, .string c, .int .i64 k, .int .i64 rr] 24) = w1 at HBq HQ ⊢
  obtain ⟨q0, q1, q2, q3, q4, _⟩ := HQ.out.cells
  have hqs := HQ.out.lt
  obtain ⟨fb, hfb⟩ : ∃ fb, askF false true false true id c k rr = fb := ⟨_, rfl⟩
  rw [hfb] at hres
  unfold askF at hfb
  go_upto_region 4 with fail
  go_cut [58] (fun s58 wx => s58 = .bool fb ∧ wx = w1)
  case first =>
    by_cases z1 : id = 0
    · skip
      have y1 : (id != 0) = false := by rw [bne_eq_false_iff_eq]; exact z1
      by_cases z3 : k = 0
      · skip
        have y3 : (k != 0) = false := by rw [bne_eq_false_iff_eq]; exact z3
        clear hres
        have hfc : fb = false := by rw [← hfb]; simp [z1, z3]
        subst hfc
        clear z1 z3
        go_wp2_with fail
        go_meet
        exact ⟨rfl, rfl⟩
      · have y3 : (k != 0) = true := by rw [bne_iff_ne]; exact z3
        clear hres
        have hfc : fb = true := by rw [← hfb]; simp [z3]
        subst hfc
        clear z1 z3
        go_wp2_with fail
        go_meet
        exact ⟨rfl, rfl⟩
    · have y1 : (id != 0) = true := by rw [bne_iff_ne]; exact z1
      clear hres
      have hfc : fb = true := by rw [← hfb]; simp [z1]
      subst hfc
      clear z1
      go_wp2_with fail
      go_meet
      exact ⟨rfl, rfl⟩
  case rest =>
    obtain ⟨rfl, rfl⟩ := hcut
    clear hfb
    cases fb
    · rw [if_neg (by decide)] at hres
      obtain ⟨e, he⟩ : ∃ e, lowE id c k rr = e := ⟨_, rfl⟩
      rw [he] at hres
      unfold lowE at he
      by_cases lid : id < 0
      · have did : decide (id < 0) = true := by simpa using lid
        rw [if_pos (Or.inl lid)] at he
        subst he
        rw [if_pos (by decide)] at hres
        subst hres
        clear lid
        go_wp2
        go_ret2
        exact ⟨rfl, HBq.out⟩
      have did : decide (id < 0) = false := by simpa using lid
      by_cases lk : k < 0
      · have dk : decide (k < 0) = true := by simpa using lk
        rw [if_pos (Or.inr (Or.inl lk))] at he
        subst he
        rw [if_pos (by decide)] at hres
        subst hres
        clear lk
        go_wp2
        go_ret2
        exact ⟨rfl, HBq.out⟩
      have dk : decide (k < 0) = false := by simpa using lk
      by_cases lrr : rr < 0
      · have drr : decide (rr < 0) = true := by simpa using lrr
        rw [if_pos (Or.inr (Or.inr lrr))] at he
        subst he
        rw [if_pos (by decide)] at hres
        subst hres
        clear lrr
        go_wp2
        go_ret2
        exact ⟨rfl, HBq.out⟩
      have drr : decide (rr < 0) = false := by simpa using lrr
      rw [if_neg (fun h => by rcases h with h | h | h <;> contradiction)] at he
      by_cases lc : 65536 < c.size
      · have dc : decide (65536 < (c.size : Int)) = true := by simp; omega
        rw [if_pos lc] at he
        subst he
        rw [if_pos (by decide)] at hres
        subst hres
        clear lc
        go_wp2
        go_ret2
        exact ⟨rfl, HBq.out⟩
      have dc : decide (65536 < (c.size : Int)) = false := by simp; omega
      rw [if_neg lc] at he
      subst he
      rw [if_neg (by decide)] at hres
      subst hres
      have HLs := HL.out wc
      clear lid lk lrr lc
      obtain ⟨u0, hu0⟩ : ∃ u0 : ByteArray, ⟨[81, UInt8.ofNat op.toNat].toArray⟩ = u0 := ⟨_, rfl⟩
      have d0 : u0.data.toList = [81, UInt8.ofNat op.toNat] := by rw [← hu0]
      have s0 : u0.size = 2 := by rw [← hu0]; rfl
      rw [hu0] at HLs
      have R1 := RT.out
      obtain ⟨u1, hu1⟩ : ∃ u1 : ByteArray, ⟨(vNum c.size ++ c.data.toList).toArray⟩ = u1 := ⟨_, rfl⟩
      have d1 : u1.data.toList = vNum c.size ++ c.data.toList := by rw [← hu1]
      have s1 : u1.size ≤ 140737488351242 := by have := vNum_len c.size; have e1 : u1.size = (vNum c.size).length + c.size := (by rw [← hu1]; simp only [ByteArray.size, List.size_toArray, List.length_append, Array.length_toList]); omega
      rw [hu1] at R1
      have e1 : ¬ (u0.size + u1.size > 9223372036854775807) := by omega
      have g1 : ¬ (9223372036854775807 < u0.size + u1.size) := by omega
      have HR1 := Lib.hid R1
      have R2 := RN.out rr
      obtain ⟨u2, hu2⟩ : ∃ u2 : ByteArray, ⟨(vNum rr).toArray⟩ = u2 := ⟨_, rfl⟩
      have d2 : u2.data.toList = vNum rr := by rw [← hu2]
      have s2 : u2.size ≤ 10 := by rw [← hu2]; exact vNum_len rr
      rw [hu2] at R2
      have e2 : ¬ ((u0 ++ u1).size + u2.size > 9223372036854775807) := by rw [ByteArray.size_append]; omega
      have g2 : ¬ (9223372036854775807 < u0.size + u1.size + u2.size) := by omega
      have HR2 := Lib.hid R2
      have hout : (u0 ++ u1 ++ u2) = ⟨(askB false true false true op id c k rr).toArray⟩ := str_of_data (by simp only [cat_data, d0, d1, d2]; simp [askB, numIf, textIf])
      have HO := Lib.hid hout
      clear hout d0 s0 hu0 d1 s1 hu1 d2 s2 hu2 R1 R2
      have HX0 := Lib.hid (HBq.out.alloc (HBq.out.size) (.cells #[.int .u8 81, .int .u8 op] 5))
      have HY0 := Lib.hid (HQ.out.alloc (.cells #[.int .u8 81, .int .u8 op] 5))
      clear q0 q1 q2 q3 q4 hqs
      obtain ⟨q0, q1, q2, q3, q4, _⟩ := HQ.out.cells
      have hqa : ∀ o j, (wc.alloc o).cell? ⟨w.heap.size, j, none⟩ = wc.cell? ⟨w.heap.size, j, none⟩ := fun o j => World.cell?_alloc_lt _ _ _ HQ.out.lt
      go_wp2_with fail
      refine (HR1.out _).mono ?_
      rintro x v1 ⟨rfl, k1⟩
      have HX1 := Lib.hid (HX0.out.trans (k1.mono (Nat.le_of_lt HY0.out.lt)))
      have HY1 := Lib.hid (HY0.out.of (k1.block _ HY0.out.lt))
      clear k1 q0 q1 q2 q3 q4
      obtain ⟨q0, q1, q2, q3, q4, _⟩ := HY1.out.cells
      go_wp2_with fail
      refine (HR2.out _).mono ?_
      rintro x v2 ⟨rfl, k2⟩
      have HX2 := Lib.hid (HX1.out.trans (k2.mono (Nat.le_of_lt HY1.out.lt)))
      have HY2 := Lib.hid (HY1.out.of (k2.block _ HY1.out.lt))
      clear k2 q0 q1 q2 q3 q4
      obtain ⟨q0, q1, q2, q3, q4, _⟩ := HY2.out.cells
      go_wp2
      go_ret2
      exact ⟨by rw [← HO.out]; rfl, HX2.out⟩
    · rw [if_pos rfl] at hres
      subst hres
      go_wp2
      go_ret2
      exact ⟨rfl, HBq.out⟩

set_option maxRecDepth 100000 in
set_option maxHeartbeats 1000000 in
theorem rask_6 (op : Int) (hop : 1 ≤ op ∧ op ≤ 9) (hnm : nm op = (false, false, false, false)) (id : Int) (c : ByteArray) (k rr : Int) (hc : c.size ≤ 140737488351232) (w : World) :
    Calls Try.prog 21 #[.agg #[.int .i64 op, .int .i64 id, .string c, .int .i64 k, .int .i64 rr]] w fun x w' => x = .returned (.tuple #[.string ⟨(askO false false false false op id c k rr).1.toArray⟩, .int .i64 (askO false false false false op id c k rr).2]) ∧ Below w.heap.size w w' := by
  have N := Lib.hid (fun W => names_calls op W)
  rw [hnm] at N
  have RN := Lib.hid (fun n W => rnum_calls n W)
  have RT := Lib.hid (fun W => rtxt_calls c hc W)
  have o1 : decide (op < 1) = false := by simp; omega
  have o2 : decide (9 < op) = false := by simp; omega
  have HBq := Lib.hid ((Below.refl w.heap.size w).alloc (Nat.le_refl _) (.cells #[.int .i64 op, .int .i64 id, .string c, .int .i64 k, .int .i64 rr] 24))
  have HQ := Lib.hid (rq_box w op id c k rr)
  obtain ⟨res, hres⟩ : ∃ res, askO false false false false op id c k rr = res := ⟨_, rfl⟩
  rw [hres]
  unfold askO at hres
  have hwo : IntKind.u8.wrap op = op := by rw [IntKind.wrap_u8]; omega
  have hv : (#[.int .u8 81, .int .u8 op] : Array Value) = (([81, UInt8.ofNat op.toNat] : List UInt8).map by8).toArray := by
    have ht : ((UInt8.ofNat op.toNat).toNat : Int) = op := by rw [u8ofNat_toNat _ (by omega)]; omega
    simp only [List.map_cons, List.map_nil, by8, ht]
    rfl
  have HL := Lib.hid (fun W => lit_toStr (P := Try.prog) 83 9 5 Try.underlying83 Try.underlying5 Try.underlying9 W 5 [81, UInt8.ofNat op.toNat] #[.int .u8 81, .int .u8 op] hv 2 rfl)
  clear hv hnm
  go_enter Try.func21, Try.ntmps21
  go_wp2_with fail
  refine (N.out _).mono ?_
  rintro x y ⟨rfl, rfl⟩
  generalize w.alloc (.cells #[.int .i64 op, .int .i64 id, .string c, .int .i64 k, .int .i64 rr] 24) = w1 at HBq HQ ⊢
  obtain ⟨q0, q1, q2, q3, q4, _⟩ := HQ.out.cells
  have hqs := HQ.out.lt
  obtain ⟨fb, hfb⟩ : ∃ fb, askF false false false false id c k rr = fb := ⟨_, rfl⟩
  rw [hfb] at hres
  unfold askF at hfb
  go_upto_region 4 with fail
  go_cut [58] (fun s58 wx => s58 = .bool fb ∧ wx = w1)
  case first =>
    by_cases z1 : id = 0
    · skip
      have y1 : (id != 0) = false := by rw [bne_eq_false_iff_eq]; exact z1
      by_cases z2 : c = ⟨#[]⟩
      · skip
        have y2 : c.toList.isEmpty = true := by rw [ByteArray.toList_eq, z2]; rfl
        by_cases z3 : k = 0
        · skip
          have y3 : (k != 0) = false := by rw [bne_eq_false_iff_eq]; exact z3
          by_cases z4 : rr = 0
          · skip
            have y4 : (rr != 0) = false := by rw [bne_eq_false_iff_eq]; exact z4
            clear hres
            have hfc : fb = false := by rw [← hfb]; simp [z1, z2, z3, z4]
            subst hfc
            clear z1 z2 z3 z4
            go_wp2_with fail
            go_meet
            exact ⟨rfl, rfl⟩
          · have y4 : (rr != 0) = true := by rw [bne_iff_ne]; exact z4
            clear hres
            have hfc : fb = true := by rw [← hfb]; simp [z4]
            subst hfc
            clear z1 z2 z3 z4
            go_wp2_with fail
            go_meet
            exact ⟨rfl, rfl⟩
        · have y3 : (k != 0) = true := by rw [bne_iff_ne]; exact z3
          clear hres
          have hfc : fb = true := by rw [← hfb]; simp [z3]
          subst hfc
          clear z1 z2 z3
          go_wp2_with fail
          go_meet
          exact ⟨rfl, rfl⟩
      · have y2 : c.toList.isEmpty = false := by rw [ByteArray.toList_eq, List.isEmpty_eq_false_iff]; intro h; exact z2 (ByteArray.ext (Array.toList_inj.1 h))
        clear hres
        have hfc : fb = true := by rw [← hfb]; simp [z2]
        subst hfc
        clear z1 z2
        go_wp2_with fail
        go_meet
        exact ⟨rfl, rfl⟩
    · have y1 : (id != 0) = true := by rw [bne_iff_ne]; exact z1
      clear hres
      have hfc : fb = true := by rw [← hfb]; simp [z1]
      subst hfc
      clear z1
      go_wp2_with fail
      go_meet
      exact ⟨rfl, rfl⟩
  case rest =>
    obtain ⟨rfl, rfl⟩ := hcut
    clear hfb
    cases fb
    · rw [if_neg (by decide)] at hres
      obtain ⟨e, he⟩ : ∃ e, lowE id c k rr = e := ⟨_, rfl⟩
      rw [he] at hres
      unfold lowE at he
      by_cases lid : id < 0
      · have did : decide (id < 0) = true := by simpa using lid
        rw [if_pos (Or.inl lid)] at he
        subst he
        rw [if_pos (by decide)] at hres
        subst hres
        clear lid
        go_wp2
        go_ret2
        exact ⟨rfl, HBq.out⟩
      have did : decide (id < 0) = false := by simpa using lid
      by_cases lk : k < 0
      · have dk : decide (k < 0) = true := by simpa using lk
        rw [if_pos (Or.inr (Or.inl lk))] at he
        subst he
        rw [if_pos (by decide)] at hres
        subst hres
        clear lk
        go_wp2
        go_ret2
        exact ⟨rfl, HBq.out⟩
      have dk : decide (k < 0) = false := by simpa using lk
      by_cases lrr : rr < 0
      · have drr : decide (rr < 0) = true := by simpa using lrr
        rw [if_pos (Or.inr (Or.inr lrr))] at he
        subst he
        rw [if_pos (by decide)] at hres
        subst hres
        clear lrr
        go_wp2
        go_ret2
        exact ⟨rfl, HBq.out⟩
      have drr : decide (rr < 0) = false := by simpa using lrr
      rw [if_neg (fun h => by rcases h with h | h | h <;> contradiction)] at he
      by_cases lc : 65536 < c.size
      · have dc : decide (65536 < (c.size : Int)) = true := by simp; omega
        rw [if_pos lc] at he
        subst he
        rw [if_pos (by decide)] at hres
        subst hres
        clear lc
        go_wp2
        go_ret2
        exact ⟨rfl, HBq.out⟩
      have dc : decide (65536 < (c.size : Int)) = false := by simp; omega
      rw [if_neg lc] at he
      subst he
      rw [if_neg (by decide)] at hres
      subst hres
      have HLs := HL.out wc
      clear lid lk lrr lc
      obtain ⟨u0, hu0⟩ : ∃ u0 : ByteArray, ⟨[81, UInt8.ofNat op.toNat].toArray⟩ = u0 := ⟨_, rfl⟩
      have d0 : u0.data.toList = [81, UInt8.ofNat op.toNat] := by rw [← hu0]
      have s0 : u0.size = 2 := by rw [← hu0]; rfl
      rw [hu0] at HLs
      have hout : (u0) = ⟨(askB false false false false op id c k rr).toArray⟩ := str_of_data (by simp only [d0]; simp [askB, numIf, textIf])
      have HO := Lib.hid hout
      clear hout d0 s0 hu0 
      have HX0 := Lib.hid (HBq.out.alloc (HBq.out.size) (.cells #[.int .u8 81, .int .u8 op] 5))
      have HY0 := Lib.hid (HQ.out.alloc (.cells #[.int .u8 81, .int .u8 op] 5))
      clear q0 q1 q2 q3 q4 hqs
      obtain ⟨q0, q1, q2, q3, q4, _⟩ := HQ.out.cells
      have hqa : ∀ o j, (wc.alloc o).cell? ⟨w.heap.size, j, none⟩ = wc.cell? ⟨w.heap.size, j, none⟩ := fun o j => World.cell?_alloc_lt _ _ _ HQ.out.lt
      go_wp2
      go_ret2
      exact ⟨by rw [← HO.out]; rfl, HX0.out⟩
    · rw [if_pos rfl] at hres
      subst hres
      go_wp2
      go_ret2
      exact ⟨rfl, HBq.out⟩

set_option maxRecDepth 100000 in
theorem rask_none (op id : Int) (c : ByteArray) (k rr : Int) (hop : ¬ (1 ≤ op ∧ op ≤ 9)) (w : World) :
    Calls Try.prog 21 #[.agg #[.int .i64 op, .int .i64 id, .string c, .int .i64 k, .int .i64 rr]] w fun x w' => x = .returned (.tuple #[.string ⟨#[]⟩, .int .i64 35]) ∧ Below w.heap.size w w' := by
  have HBq := Lib.hid ((Below.refl w.heap.size w).alloc (Nat.le_refl _) (.cells #[.int .i64 op, .int .i64 id, .string c, .int .i64 k, .int .i64 rr] 24))
  by_cases h1 : op < 1
  · have o1 : decide (op < 1) = true := by simpa using h1
    go_enter Try.func21, Try.ntmps21
    go_wp2
    go_ret2
    exact ⟨rfl, HBq.out⟩
  · have o1 : decide (op < 1) = false := by simpa using h1
    have o2 : decide (9 < op) = true := by simp; omega
    go_enter Try.func21, Try.ntmps21
    go_wp2
    go_ret2
    exact ⟨rfl, HBq.out⟩
theorem rAsk_calls (op id : Int) (c : ByteArray) (k rr : Int) (hc : c.size ≤ 140737488351232) (w : World) :
    Calls Try.prog 21 #[.agg #[.int .i64 op, .int .i64 id, .string c, .int .i64 k, .int .i64 rr]] w fun x w' => x = .returned (.tuple #[.string ⟨(askOut op id c k rr).1.toArray⟩, .int .i64 (askOut op id c k rr).2]) ∧ Below w.heap.size w w' := by
  by_cases hop : 1 ≤ op ∧ op ≤ 9
  · have ho : askOut op id c k rr = askO (nm' op).1 (nm' op).2.1 (nm' op).2.2.1 (nm' op).2.2.2 op id c k rr := by
      unfold askOut askO
      rw [if_neg (by simpa using hop)]
    rw [ho]
    have hc9 : op = 1 ∨ op = 2 ∨ op = 3 ∨ op = 4 ∨ op = 5 ∨ op = 6 ∨ op = 7 ∨ op = 8 ∨ op = 9 := by omega
    rcases hc9 with rfl | rfl | rfl | rfl | rfl | rfl | rfl | rfl | rfl
    · exact rask_1 1 hop rfl id c k rr hc w
    · exact rask_2 2 hop rfl id c k rr hc w
    · exact rask_2 3 hop rfl id c k rr hc w
    · exact rask_4 4 hop rfl id c k rr hc w
    · exact rask_5 5 hop rfl id c k rr hc w
    · exact rask_6 6 hop rfl id c k rr hc w
    · exact rask_6 7 hop rfl id c k rr hc w
    · exact rask_6 8 hop rfl id c k rr hc w
    · exact rask_6 9 hop rfl id c k rr hc w
  · unfold askOut
    rw [if_pos hop]
    exact rask_none op id c k rr hop w
end Go.Proofs.Ytabhjkaheghbhaa

/-
  WALKS: the program's Tell, one walk per kind of operation. (Printed by tellwgen.py.)
-/
import Derived.Test.YtabhjkaheghbhaaTellP
import Derived.Test.YtabhjkaheghbhaaAskW
import Derived.Deep.DeepCutAuto
import Derived.Laws.EntriesVeiled
namespace Go.Proofs.Ytabhjkaheghbhaa
open Go.RowKit
set_option linter.unusedVariables false

/-- Something stands in a reply that its operation does not name. -/
def tellBad (kd : Nat) (code n : Int) (t : ByteArray) (m : Nat) : Bool :=
  (code != 0 && !zeroB n t m) || !(if kd = 3 then zeroB n ⟨#[]⟩ m else if kd = 4 then zeroB n t 0 else if kd = 6 then zeroB 0 t m else zeroB n t m)
/-- What Tell answers, of a kind of operation, at a code in range. -/
def tellO (kd : Nat) (op code n : Int) (t : ByteArray) (z : List Hv) : List UInt8 × Int :=
  if tellBad kd code n t z.length then ([], 32)
  else if code ≠ 0 then ([82, UInt8.ofNat op.toNat] ++ vNum code, 0)
  else if bodyE kd n t z ≠ 0 then ([], bodyE kd n t z)
  else ([82, UInt8.ofNat op.toNat] ++ vNum code ++ bodyB kd n t z, 0)
theorem two_cells' (w : World) (op : Int) (h : 1 ≤ op ∧ op ≤ 9) : ∀ j u, (Lib.byteCells [82, UInt8.ofNat op.toNat])[j]? = some u → (w.alloc (.cells #[.int .u8 82, .int .u8 op] 5)).cell? ⟨w.heap.size, j, none⟩ = some u := by
  intro j u hj
  have ht : ((UInt8.ofNat op.toNat).toNat : Int) = op := by rw [u8ofNat_toNat _ (by omega)]; omega
  have hh := heap_alloc_last w (.cells #[.int .u8 82, .int .u8 op] 5)
  simp only [Lib.byteCells, List.map_cons, List.map_nil, ht] at hj
  simp only [World.cell?, hh]
  match j, hj with
  | 0, hj => simpa using hj
  | 1, hj => simpa using hj

set_option maxRecDepth 100000 in
set_option maxHeartbeats 1000000 in
theorem tell_1 (op : Int) (hop : 1 ≤ op ∧ op ≤ 9) (x0 x1 x2 x4 : FuncId) (hidx : ∀ W : World, (Instr.index 68 (.agg opsT) (.int .i64 op)).run Try.prog W = .ok (.agg #[.func (.func x0) #[] #[], .func (.func x1) #[] #[], .func (.func x2) #[] #[], .func (.func 51) #[] #[], .func (.func x4) #[] #[], .func (.func 53) #[] #[]]) W) (code n : Int) (hco : 0 ≤ code ∧ code ≤ 999) (t : ByteArray) (p : Option Addr) (cap : Nat) (z : List Hv) (w : World) (hz : HR w w.heap.size p z) (hlen : t.size + (hitsB z).length + 128 ≤ 140737488355328) :
    Calls Try.prog 13 #[.int .i64 op, .agg #[.int .i64 code, .int .i64 n, .string t, .slice p z.length cap]] w fun x w' => x = .returned (.tuple #[.string ⟨(tellO 1 op code n t z).1.toArray⟩, .int .i64 (tellO 1 op code n t z).2]) ∧ Below w.heap.size w w' := by
  have hbu1 : ∀ W : World, (Instr.build 87 #[]).run Try.prog W = .ok (.agg #[.pointer none, .slice none 0 0, .int .i64 0]) W := fun W => run_build W _ _ _ (by kernel_rfl)
  have K := Lib.hid (fun W => known_calls op W)
  have hkn : decide (1 ≤ op ∧ op ≤ 9) = true := by simpa using hop
  rw [hkn] at K
  have O := Lib.hid (fun W => operations_calls W)
  have EM := Lib.hid (fun W => e_emptyNone_calls code n t p z.length cap W)
  have Z1 := Lib.hid (fun W => zero_calls code n t p z.length cap W)
  have Z2 := Lib.hid (fun W => zero_calls code n t p z.length cap W)
  have HBq := Lib.hid ((Below.refl w.heap.size w).alloc (Nat.le_refl _) (.cells #[.int .i64 code, .int .i64 n, .string t, .slice p z.length cap] 33))
  have HQ := Lib.hid (Rp.new w code n t (.slice p z.length cap))
  have HZ := Lib.hid hz
  have HLEN := Lib.hid hlen
  obtain ⟨res, hres⟩ : ∃ res, tellO 1 op code n t z = res := ⟨_, rfl⟩
  rw [hres]
  unfold tellO at hres
  have dc1 : decide (code < 0) = false := by simp; omega
  have dc2 : decide (999 < code) = false := by simp; omega
  clear hkn hz hlen
  go_enter Try.func13, Try.ntmps13
  go_wp2_with fail
  refine (K.out _).mono ?_
  rintro x y ⟨rfl, rfl⟩
  have hsz : w.heap.size < (w.alloc (.cells #[.int .i64 code, .int .i64 n, .string t, .slice p z.length cap] 33)).heap.size := by simp
  generalize w.alloc (.cells #[.int .i64 code, .int .i64 n, .string t, .slice p z.length cap] 33) = w1 at HBq HQ hsz ⊢
  obtain ⟨q0, q1, q2, q3, qf⟩ := HQ.out.cells
  clear qf
  go_wp2_with fail
  refine (O.out _).mono ?_
  rintro x w3 ⟨rfl, k3⟩
  have HQ3 := Lib.hid (HQ.out.of (k3.block _ hsz))
  have HB3 := Lib.hid (HBq.out.trans (k3.mono (Nat.le_of_lt hsz)))
  clear k3 q0 q1 q2 q3 HQ HBq hsz
  go_upto_region 6 with fail
  have HT4 := Lib.hid (heap_alloc_last w3 (.cells #[.func (.func x0) #[] #[], .func (.func x1) #[] #[], .func (.func x2) #[] #[], .func (.func 51) #[] #[], .func (.func x4) #[] #[], .func (.func 53) #[] #[]] 67))
  have HQ4 := Lib.hid (HQ3.out.alloc (.cells #[.func (.func x0) #[] #[], .func (.func x1) #[] #[], .func (.func x2) #[] #[], .func (.func 51) #[] #[], .func (.func x4) #[] #[], .func (.func 53) #[] #[]] 67))
  have HB4 := Lib.hid (HB3.out.alloc HB3.out.size (.cells #[.func (.func x0) #[] #[], .func (.func x1) #[] #[], .func (.func x2) #[] #[], .func (.func 51) #[] #[], .func (.func x4) #[] #[], .func (.func 53) #[] #[]] 67))
  obtain ⟨g, hg⟩ : ∃ g, w3.heap.size = g := ⟨_, rfl⟩
  generalize w3.alloc (.cells #[.func (.func x0) #[] #[], .func (.func x1) #[] #[], .func (.func x2) #[] #[], .func (.func 51) #[] #[], .func (.func x4) #[] #[], .func (.func 53) #[] #[]] 67) = w4 at HT4 HQ4 HB4 ⊢
  rw [hg] at HT4 ⊢
  clear hg HQ3 HB3 hidx
  obtain ⟨q0, q1, q2, q3, qf⟩ := HQ4.out.cells
  have t5 : w4.cell? ⟨g, 5, none⟩ = some (.func (.func 53) #[] #[]) := by unfold World.cell?; rw [HT4.out]; rfl
  have hgl : g < w4.heap.size := (Array.getElem?_eq_some_iff.1 HT4.out).1
  obtain ⟨fb, hfb⟩ : ∃ fb, tellBad 1 code n t z.length = fb := ⟨_, rfl⟩
  rw [hfb] at hres
  unfold tellBad at hfb
  have hfb2 : ((code != 0 && !zeroB n t z.length) || !(zeroB n t z.length)) = fb := by rw [← hfb]; rfl
  clear hfb qf
  go_cut [37] (fun s37 wx => s37 = .bool fb ∧ Rp wx w.heap.size code n t (.slice p z.length cap) ∧ Below w.heap.size w wx ∧ wx.heap[g]? = some (.cells #[.func (.func x0) #[] #[], .func (.func x1) #[] #[], .func (.func x2) #[] #[], .func (.func 51) #[] #[], .func (.func x4) #[] #[], .func (.func 53) #[] #[]] 67 (0, 0)))
  case first =>
    clear hres
    obtain ⟨b2, hb2⟩ : ∃ b2, zeroB n t z.length = b2 := ⟨_, rfl⟩
    rw [hb2] at Z2 hfb2
    by_cases hc0 : code = 0
    · have hcb : (code != 0) = false := by rw [bne_eq_false_iff_eq]; exact hc0
      rw [hcb, Bool.false_and, Bool.false_or] at hfb2
      subst hfb2
      clear hc0 hb2 Z1
      go_wp2_with fail
      refine (EM.out _).mono ?_
      rintro x w5 ⟨rfl, k5⟩
      have HQ5 := Lib.hid (HQ4.out.of (k5.block _ HQ4.out.lt))
      have HB5 := Lib.hid (HB4.out.trans (k5.mono (Nat.le_of_lt HQ4.out.lt)))
      have HT5 := Lib.hid ((k5.block _ hgl).trans HT4.out)
      clear k5 q0 q1 q2 q3 t5
      go_wp2_with fail
      refine (Z2.out _).mono ?_
      rintro x w6 ⟨rfl, k6⟩
      have HQ6 := Lib.hid (HQ5.out.of (k6.block _ HQ5.out.lt))
      have HB6 := Lib.hid (HB5.out.trans (k6.mono (Nat.le_of_lt HQ5.out.lt)))
      have HT6 := Lib.hid ((k6.block _ (Array.getElem?_eq_some_iff.1 HT5.out).1).trans HT5.out)
      clear k6
      go_wp2_with fail
      go_meet
      exact ⟨rfl, HQ6.out, HB6.out, HT6.out⟩
    · have hcb : (code != 0) = true := by rw [bne_iff_ne]; exact hc0
      rw [hcb, Bool.true_and] at hfb2
      rw [hb2] at Z1
      clear hb2
      clear hc0
      go_wp2_with fail
      refine (Z1.out _).mono ?_
      rintro x w5 ⟨rfl, k5⟩
      have HQ5 := Lib.hid (HQ4.out.of (k5.block _ HQ4.out.lt))
      have HB5 := Lib.hid (HB4.out.trans (k5.mono (Nat.le_of_lt HQ4.out.lt)))
      have HT5 := Lib.hid ((k5.block _ hgl).trans HT4.out)
      clear k5 q0 q1 q2 q3 t5
      cases b2
      · rw [Bool.not_false, Bool.true_or] at hfb2
        subst hfb2
        go_wp2_with fail
        go_meet
        exact ⟨rfl, HQ5.out, HB5.out, HT5.out⟩
      · rw [Bool.not_true, Bool.false_or] at hfb2
        subst hfb2
        obtain ⟨q0, q1, q2, q3, qf⟩ := HQ5.out.cells
        have t5 : w5.cell? ⟨g, 5, none⟩ = some (.func (.func 53) #[] #[]) := by unfold World.cell?; rw [HT5.out]; rfl
        clear qf
        go_wp2_with fail
        refine (EM.out _).mono ?_
        rintro x w6 ⟨rfl, k6⟩
        have HQ6 := Lib.hid (HQ5.out.of (k6.block _ HQ5.out.lt))
        have HB6 := Lib.hid (HB5.out.trans (k6.mono (Nat.le_of_lt HQ5.out.lt)))
        have HT6 := Lib.hid ((k6.block _ (Array.getElem?_eq_some_iff.1 HT5.out).1).trans HT5.out)
        clear k6 q0 q1 q2 q3 t5
        go_wp2_with fail
        refine (Z2.out _).mono ?_
        rintro x w7 ⟨rfl, k7⟩
        have HQ7 := Lib.hid (HQ6.out.of (k7.block _ HQ6.out.lt))
        have HB7 := Lib.hid (HB6.out.trans (k7.mono (Nat.le_of_lt HQ6.out.lt)))
        have HT7 := Lib.hid ((k7.block _ (Array.getElem?_eq_some_iff.1 HT6.out).1).trans HT6.out)
        clear k7
        go_wp2_with fail
        go_meet
        exact ⟨rfl, HQ7.out, HB7.out, HT7.out⟩
  case rest =>
    obtain ⟨rfl, hq5, hb5, hT5⟩ := hcut
    clear q0 q1 q2 q3 t5 hfb2 HQ4 HB4 HT4 hgl Z1 Z2 EM
    obtain ⟨w5, rfl⟩ : ∃ w5 : World, w5 = wc := ⟨_, rfl⟩
    cases fb
    · rw [if_neg (by decide)] at hres
      have HQ5 := Lib.hid hq5
      have HB5 := Lib.hid hb5
      have HT5 := Lib.hid hT5
      clear hq5 hb5 hT5
      have HW := Lib.hid (Wr.new' (B := w.heap.size) w5 HB5.out.size)
      have HQ6 := Lib.hid (HQ5.out.alloc (.cells #[.pointer none, .slice none 0 0, .int .i64 0] 87))
      have HT6 := Lib.hid ((Below.heap_alloc w5 (.cells #[.pointer none, .slice none 0 0, .int .i64 0] 87) g (Array.getElem?_eq_some_iff.1 HT5.out).1).trans HT5.out)
      have HB6 := Lib.hid (HB5.out.alloc HB5.out.size (.cells #[.pointer none, .slice none 0 0, .int .i64 0] 87))
      have hqr : w.heap.size ≠ w5.heap.size := by have := HQ5.out.lt; omega
      have hgr : g ≠ w5.heap.size := by have := (Array.getElem?_eq_some_iff.1 HT5.out).1; omega
      have hwo : IntKind.u8.wrap op = op := by rw [IntKind.wrap_u8]; omega
      go_upto_region 9 with fail
      obtain ⟨r, hr⟩ : ∃ r, w5.heap.size = r := ⟨_, rfl⟩
      generalize w5.alloc (.cells #[.pointer none, .slice none 0 0, .int .i64 0] 87) = w6 at HW HQ6 HT6 HB6 ⊢
      rw [hr] at HW hqr hgr ⊢
      clear HQ5 HT5 HB5 hr
      have hgw : w6.heap.size ≠ r := by have := HW.out.lt; omega
      have hqs := HQ6.out.lt
      have hgs : g < w6.heap.size := (Array.getElem?_eq_some_iff.1 HT6.out).1
      have WA := Lib.hid (HW.out.alloc (.cells #[.int .u8 82, .int .u8 op] 5))
      have WC := Lib.hid (Write_calls w.heap.size r [] 0 w6.heap.size 82 (UInt8.ofNat op.toNat) _ WA.out (by decide) (two_cells' w6 op hop) hgw)
      go_wp2_with fail
      refine WC.out.mono ?_
      rintro x w8 ⟨rfl, h8, b8, o8⟩
      have HW8 := Lib.hid h8.wr
      have HQ8 := Lib.hid ((HQ6.out.alloc _).of (o8 _ _ _ _ hqr (by decide) (HQ6.out.alloc _)))
      have HB8 := Lib.hid ((HB6.out.alloc HB6.out.size _).trans b8)
      have HT8 := Lib.hid ((o8 _ _ _ _ hgr (by decide) ((Below.heap_alloc w6 _ _ hgs).trans HT6.out)).trans ((Below.heap_alloc w6 _ _ hgs).trans HT6.out))
      clear h8 b8 o8 WC WA HW HQ6 HT6 HB6 hgw hqs hgs
      obtain ⟨q0, q1, q2, q3, qf⟩ := HQ8.out.cells
      clear qf
      have NU := Lib.hid (wnumber_calls w.heap.size r ([] ++ [82, UInt8.ofNat op.toNat]) 0 code w8 HW8.out (by simp))
      rw [dc1, show rf false 13 0 = 0 by simp [rf]] at NU
      go_wp2_with fail
      refine NU.out.mono ?_
      rintro x w9 ⟨rfl, h9, b9, o9⟩
      have HW9 := Lib.hid h9
      have HQ9 := Lib.hid (HQ8.out.of (o9 _ _ _ _ hqr (by decide) HQ8.out))
      have HB9 := Lib.hid (HB8.out.trans b9)
      have HT9 := Lib.hid ((o9 _ _ _ _ hgr (by decide) HT8.out).trans HT8.out)
      clear h9 b9 o9 q0 q1 q2 q3 HW8 HQ8 HB8 HT8 NU
      obtain ⟨q0, q1, q2, q3, qf⟩ := HQ9.out.cells
      clear qf
      by_cases hc0 : code = 0
      · have hcb : (code == 0) = true := by rw [beq_iff_eq]; exact hc0
        rw [if_neg (fun h => h hc0)] at hres
        have t3 : w9.cell? ⟨g, 3, none⟩ = some (.func (.func 51) #[] #[]) := by unfold World.cell?; rw [HT9.out]; rfl
        have TC := Lib.hid (t_silent_calls w.heap.size r ([] ++ [82, UInt8.ofNat op.toNat] ++ vNum code) code n t p z cap w9 HW9.out (HZ.out.below HB9.out) (by have := HLEN.out; have := vNum_len code; simp only [List.length_append, List.length_nil, List.length_cons]; omega))
        clear hc0
        go_wp2_with fail
        refine TC.out.mono ?_
        rintro x wa ⟨rfl, ha, ba, oa⟩
        have HBa := Lib.hid (HB9.out.trans ba)
        obtain ⟨be, hbe⟩ : ∃ be, bodyE 1 n t z = be := ⟨_, rfl⟩
        rw [hbe] at ha hres
        have hL : [] ++ [82, UInt8.ofNat op.toNat] ++ vNum code ++ bodyB 1 n t z = [82, UInt8.ofNat op.toNat] ++ vNum code ++ bodyB 1 n t z := by simp
        have hne : [82, UInt8.ofNat op.toNat] ++ vNum code ++ bodyB 1 n t z ≠ [] := by simp
        rw [hL] at ha
        clear hL hbe
        generalize hout : [82, UInt8.ofNat op.toNat] ++ vNum code ++ bodyB 1 n t z = out at ha hres hne
        have DN := Lib.hid (done_calls w.heap.size r out be wa ha hne)
        clear ha ba oa q0 q1 q2 q3 t3 hne HW9 HQ9 HB9 HT9 TC
        go_wp2_with fail
        refine DN.out.mono ?_
        rintro x wb ⟨rfl, bb⟩
        have HBb := Lib.hid (HBa.out.trans bb)
        clear bb HBa
        by_cases hb0 : be = 0
        · subst hb0
          rw [if_neg (by decide)] at hres
          subst hres
          go_wp2
          go_ret2
          exact ⟨rfl, HBb.out⟩
        · rw [if_pos hb0] at hres
          subst hres
          rw [if_neg hb0]
          clear hb0
          go_wp2
          go_ret2
          exact ⟨rfl, HBb.out⟩
      · have hcb : (code == 0) = false := by rw [beq_eq_false_iff_ne]; exact hc0
        rw [if_pos hc0] at hres
        clear hc0
        have hne : [] ++ [82, UInt8.ofNat op.toNat] ++ vNum code ≠ [] := by simp
        have h9 := HW9.out
        generalize hout : [] ++ [82, UInt8.ofNat op.toNat] ++ vNum code = out at h9 hne
        have hout2 : [82, UInt8.ofNat op.toNat] ++ vNum code = out := by rw [← hout]; simp
        rw [hout2] at hres
        subst hres
        have DN := Lib.hid (done_calls w.heap.size r out 0 w9 h9 hne)
        rw [if_pos rfl] at DN
        clear h9 hne hout hout2 HW9
        go_wp2_with fail
        refine DN.out.mono ?_
        rintro x wb ⟨rfl, bb⟩
        have HBb := Lib.hid (HB9.out.trans bb)
        clear bb
        go_wp2
        go_ret2
        exact ⟨rfl, HBb.out⟩
    · rw [if_pos rfl] at hres
      subst hres
      go_wp2
      go_ret2
      exact ⟨rfl, hb5⟩

set_option maxRecDepth 100000 in
set_option maxHeartbeats 1000000 in
theorem tell_3 (op : Int) (hop : 1 ≤ op ∧ op ≤ 9) (x0 x1 x2 x4 : FuncId) (hidx : ∀ W : World, (Instr.index 68 (.agg opsT) (.int .i64 op)).run Try.prog W = .ok (.agg #[.func (.func x0) #[] #[], .func (.func x1) #[] #[], .func (.func x2) #[] #[], .func (.func 65) #[] #[], .func (.func x4) #[] #[], .func (.func 67) #[] #[]]) W) (code n : Int) (hco : 0 ≤ code ∧ code ≤ 999) (t : ByteArray) (p : Option Addr) (cap : Nat) (z : List Hv) (w : World) (hz : HR w w.heap.size p z) (hlen : t.size + (hitsB z).length + 128 ≤ 140737488355328) :
    Calls Try.prog 13 #[.int .i64 op, .agg #[.int .i64 code, .int .i64 n, .string t, .slice p z.length cap]] w fun x w' => x = .returned (.tuple #[.string ⟨(tellO 3 op code n t z).1.toArray⟩, .int .i64 (tellO 3 op code n t z).2]) ∧ Below w.heap.size w w' := by
  have hbu1 : ∀ W : World, (Instr.build 87 #[]).run Try.prog W = .ok (.agg #[.pointer none, .slice none 0 0, .int .i64 0]) W := fun W => run_build W _ _ _ (by kernel_rfl)
  have K := Lib.hid (fun W => known_calls op W)
  have hkn : decide (1 ≤ op ∧ op ≤ 9) = true := by simpa using hop
  rw [hkn] at K
  have O := Lib.hid (fun W => operations_calls W)
  have EM := Lib.hid (fun W => e_operations_6_calls code n t p z.length cap W)
  have Z1 := Lib.hid (fun W => zero_calls code n t p z.length cap W)
  have Z2 := Lib.hid (fun W => zero_calls code n ⟨#[]⟩ p z.length cap W)
  have HBq := Lib.hid ((Below.refl w.heap.size w).alloc (Nat.le_refl _) (.cells #[.int .i64 code, .int .i64 n, .string t, .slice p z.length cap] 33))
  have HQ := Lib.hid (Rp.new w code n t (.slice p z.length cap))
  have HZ := Lib.hid hz
  have HLEN := Lib.hid hlen
  obtain ⟨res, hres⟩ : ∃ res, tellO 3 op code n t z = res := ⟨_, rfl⟩
  rw [hres]
  unfold tellO at hres
  have dc1 : decide (code < 0) = false := by simp; omega
  have dc2 : decide (999 < code) = false := by simp; omega
  clear hkn hz hlen
  go_enter Try.func13, Try.ntmps13
  go_wp2_with fail
  refine (K.out _).mono ?_
  rintro x y ⟨rfl, rfl⟩
  have hsz : w.heap.size < (w.alloc (.cells #[.int .i64 code, .int .i64 n, .string t, .slice p z.length cap] 33)).heap.size := by simp
  generalize w.alloc (.cells #[.int .i64 code, .int .i64 n, .string t, .slice p z.length cap] 33) = w1 at HBq HQ hsz ⊢
  obtain ⟨q0, q1, q2, q3, qf⟩ := HQ.out.cells
  clear qf
  go_wp2_with fail
  refine (O.out _).mono ?_
  rintro x w3 ⟨rfl, k3⟩
  have HQ3 := Lib.hid (HQ.out.of (k3.block _ hsz))
  have HB3 := Lib.hid (HBq.out.trans (k3.mono (Nat.le_of_lt hsz)))
  clear k3 q0 q1 q2 q3 HQ HBq hsz
  go_upto_region 6 with fail
  have HT4 := Lib.hid (heap_alloc_last w3 (.cells #[.func (.func x0) #[] #[], .func (.func x1) #[] #[], .func (.func x2) #[] #[], .func (.func 65) #[] #[], .func (.func x4) #[] #[], .func (.func 67) #[] #[]] 67))
  have HQ4 := Lib.hid (HQ3.out.alloc (.cells #[.func (.func x0) #[] #[], .func (.func x1) #[] #[], .func (.func x2) #[] #[], .func (.func 65) #[] #[], .func (.func x4) #[] #[], .func (.func 67) #[] #[]] 67))
  have HB4 := Lib.hid (HB3.out.alloc HB3.out.size (.cells #[.func (.func x0) #[] #[], .func (.func x1) #[] #[], .func (.func x2) #[] #[], .func (.func 65) #[] #[], .func (.func x4) #[] #[], .func (.func 67) #[] #[]] 67))
  obtain ⟨g, hg⟩ : ∃ g, w3.heap.size = g := ⟨_, rfl⟩
  generalize w3.alloc (.cells #[.func (.func x0) #[] #[], .func (.func x1) #[] #[], .func (.func x2) #[] #[], .func (.func 65) #[] #[], .func (.func x4) #[] #[], .func (.func 67) #[] #[]] 67) = w4 at HT4 HQ4 HB4 ⊢
  rw [hg] at HT4 ⊢
  clear hg HQ3 HB3 hidx
  obtain ⟨q0, q1, q2, q3, qf⟩ := HQ4.out.cells
  have t5 : w4.cell? ⟨g, 5, none⟩ = some (.func (.func 67) #[] #[]) := by unfold World.cell?; rw [HT4.out]; rfl
  have hgl : g < w4.heap.size := (Array.getElem?_eq_some_iff.1 HT4.out).1
  obtain ⟨fb, hfb⟩ : ∃ fb, tellBad 3 code n t z.length = fb := ⟨_, rfl⟩
  rw [hfb] at hres
  unfold tellBad at hfb
  have hfb2 : ((code != 0 && !zeroB n t z.length) || !(zeroB n ⟨#[]⟩ z.length)) = fb := by rw [← hfb]; rfl
  clear hfb qf
  go_cut [37] (fun s37 wx => s37 = .bool fb ∧ Rp wx w.heap.size code n t (.slice p z.length cap) ∧ Below w.heap.size w wx ∧ wx.heap[g]? = some (.cells #[.func (.func x0) #[] #[], .func (.func x1) #[] #[], .func (.func x2) #[] #[], .func (.func 65) #[] #[], .func (.func x4) #[] #[], .func (.func 67) #[] #[]] 67 (0, 0)))
  case first =>
    clear hres
    obtain ⟨b2, hb2⟩ : ∃ b2, zeroB n ⟨#[]⟩ z.length = b2 := ⟨_, rfl⟩
    rw [hb2] at Z2 hfb2
    by_cases hc0 : code = 0
    · have hcb : (code != 0) = false := by rw [bne_eq_false_iff_eq]; exact hc0
      rw [hcb, Bool.false_and, Bool.false_or] at hfb2
      subst hfb2
      clear hc0 hb2 Z1
      go_wp2_with fail
      refine (EM.out _).mono ?_
      rintro x w5 ⟨rfl, k5⟩
      have HQ5 := Lib.hid (HQ4.out.of (k5.block _ HQ4.out.lt))
      have HB5 := Lib.hid (HB4.out.trans (k5.mono (Nat.le_of_lt HQ4.out.lt)))
      have HT5 := Lib.hid ((k5.block _ hgl).trans HT4.out)
      clear k5 q0 q1 q2 q3 t5
      go_wp2_with fail
      refine (Z2.out _).mono ?_
      rintro x w6 ⟨rfl, k6⟩
      have HQ6 := Lib.hid (HQ5.out.of (k6.block _ HQ5.out.lt))
      have HB6 := Lib.hid (HB5.out.trans (k6.mono (Nat.le_of_lt HQ5.out.lt)))
      have HT6 := Lib.hid ((k6.block _ (Array.getElem?_eq_some_iff.1 HT5.out).1).trans HT5.out)
      clear k6
      go_wp2_with fail
      go_meet
      exact ⟨rfl, HQ6.out, HB6.out, HT6.out⟩
    · have hcb : (code != 0) = true := by rw [bne_iff_ne]; exact hc0
      rw [hcb, Bool.true_and] at hfb2
      obtain ⟨b1, hb1⟩ : ∃ b1, zeroB n t z.length = b1 := ⟨_, rfl⟩
      rw [hb1] at Z1 hfb2
      clear hb1 hb2
      clear hc0
      go_wp2_with fail
      refine (Z1.out _).mono ?_
      rintro x w5 ⟨rfl, k5⟩
      have HQ5 := Lib.hid (HQ4.out.of (k5.block _ HQ4.out.lt))
      have HB5 := Lib.hid (HB4.out.trans (k5.mono (Nat.le_of_lt HQ4.out.lt)))
      have HT5 := Lib.hid ((k5.block _ hgl).trans HT4.out)
      clear k5 q0 q1 q2 q3 t5
      cases b1
      · rw [Bool.not_false, Bool.true_or] at hfb2
        subst hfb2
        go_wp2_with fail
        go_meet
        exact ⟨rfl, HQ5.out, HB5.out, HT5.out⟩
      · rw [Bool.not_true, Bool.false_or] at hfb2
        subst hfb2
        obtain ⟨q0, q1, q2, q3, qf⟩ := HQ5.out.cells
        have t5 : w5.cell? ⟨g, 5, none⟩ = some (.func (.func 67) #[] #[]) := by unfold World.cell?; rw [HT5.out]; rfl
        clear qf
        go_wp2_with fail
        refine (EM.out _).mono ?_
        rintro x w6 ⟨rfl, k6⟩
        have HQ6 := Lib.hid (HQ5.out.of (k6.block _ HQ5.out.lt))
        have HB6 := Lib.hid (HB5.out.trans (k6.mono (Nat.le_of_lt HQ5.out.lt)))
        have HT6 := Lib.hid ((k6.block _ (Array.getElem?_eq_some_iff.1 HT5.out).1).trans HT5.out)
        clear k6 q0 q1 q2 q3 t5
        go_wp2_with fail
        refine (Z2.out _).mono ?_
        rintro x w7 ⟨rfl, k7⟩
        have HQ7 := Lib.hid (HQ6.out.of (k7.block _ HQ6.out.lt))
        have HB7 := Lib.hid (HB6.out.trans (k7.mono (Nat.le_of_lt HQ6.out.lt)))
        have HT7 := Lib.hid ((k7.block _ (Array.getElem?_eq_some_iff.1 HT6.out).1).trans HT6.out)
        clear k7
        go_wp2_with fail
        go_meet
        exact ⟨rfl, HQ7.out, HB7.out, HT7.out⟩
  case rest =>
    obtain ⟨rfl, hq5, hb5, hT5⟩ := hcut
    clear q0 q1 q2 q3 t5 hfb2 HQ4 HB4 HT4 hgl Z1 Z2 EM
    obtain ⟨w5, rfl⟩ : ∃ w5 : World, w5 = wc := ⟨_, rfl⟩
    cases fb
    · rw [if_neg (by decide)] at hres
      have HQ5 := Lib.hid hq5
      have HB5 := Lib.hid hb5
      have HT5 := Lib.hid hT5
      clear hq5 hb5 hT5
      have HW := Lib.hid (Wr.new' (B := w.heap.size) w5 HB5.out.size)
      have HQ6 := Lib.hid (HQ5.out.alloc (.cells #[.pointer none, .slice none 0 0, .int .i64 0] 87))
      have HT6 := Lib.hid ((Below.heap_alloc w5 (.cells #[.pointer none, .slice none 0 0, .int .i64 0] 87) g (Array.getElem?_eq_some_iff.1 HT5.out).1).trans HT5.out)
      have HB6 := Lib.hid (HB5.out.alloc HB5.out.size (.cells #[.pointer none, .slice none 0 0, .int .i64 0] 87))
      have hqr : w.heap.size ≠ w5.heap.size := by have := HQ5.out.lt; omega
      have hgr : g ≠ w5.heap.size := by have := (Array.getElem?_eq_some_iff.1 HT5.out).1; omega
      have hwo : IntKind.u8.wrap op = op := by rw [IntKind.wrap_u8]; omega
      go_upto_region 9 with fail
      obtain ⟨r, hr⟩ : ∃ r, w5.heap.size = r := ⟨_, rfl⟩
      generalize w5.alloc (.cells #[.pointer none, .slice none 0 0, .int .i64 0] 87) = w6 at HW HQ6 HT6 HB6 ⊢
      rw [hr] at HW hqr hgr ⊢
      clear HQ5 HT5 HB5 hr
      have hgw : w6.heap.size ≠ r := by have := HW.out.lt; omega
      have hqs := HQ6.out.lt
      have hgs : g < w6.heap.size := (Array.getElem?_eq_some_iff.1 HT6.out).1
      have WA := Lib.hid (HW.out.alloc (.cells #[.int .u8 82, .int .u8 op] 5))
      have WC := Lib.hid (Write_calls w.heap.size r [] 0 w6.heap.size 82 (UInt8.ofNat op.toNat) _ WA.out (by decide) (two_cells' w6 op hop) hgw)
      go_wp2_with fail
      refine WC.out.mono ?_
      rintro x w8 ⟨rfl, h8, b8, o8⟩
      have HW8 := Lib.hid h8.wr
      have HQ8 := Lib.hid ((HQ6.out.alloc _).of (o8 _ _ _ _ hqr (by decide) (HQ6.out.alloc _)))
      have HB8 := Lib.hid ((HB6.out.alloc HB6.out.size _).trans b8)
      have HT8 := Lib.hid ((o8 _ _ _ _ hgr (by decide) ((Below.heap_alloc w6 _ _ hgs).trans HT6.out)).trans ((Below.heap_alloc w6 _ _ hgs).trans HT6.out))
      clear h8 b8 o8 WC WA HW HQ6 HT6 HB6 hgw hqs hgs
      obtain ⟨q0, q1, q2, q3, qf⟩ := HQ8.out.cells
      clear qf
      have NU := Lib.hid (wnumber_calls w.heap.size r ([] ++ [82, UInt8.ofNat op.toNat]) 0 code w8 HW8.out (by simp))
      rw [dc1, show rf false 13 0 = 0 by simp [rf]] at NU
      go_wp2_with fail
      refine NU.out.mono ?_
      rintro x w9 ⟨rfl, h9, b9, o9⟩
      have HW9 := Lib.hid h9
      have HQ9 := Lib.hid (HQ8.out.of (o9 _ _ _ _ hqr (by decide) HQ8.out))
      have HB9 := Lib.hid (HB8.out.trans b9)
      have HT9 := Lib.hid ((o9 _ _ _ _ hgr (by decide) HT8.out).trans HT8.out)
      clear h9 b9 o9 q0 q1 q2 q3 HW8 HQ8 HB8 HT8 NU
      obtain ⟨q0, q1, q2, q3, qf⟩ := HQ9.out.cells
      clear qf
      by_cases hc0 : code = 0
      · have hcb : (code == 0) = true := by rw [beq_iff_eq]; exact hc0
        rw [if_neg (fun h => h hc0)] at hres
        have t3 : w9.cell? ⟨g, 3, none⟩ = some (.func (.func 65) #[] #[]) := by unfold World.cell?; rw [HT9.out]; rfl
        have TC := Lib.hid (t_operations_4_calls w.heap.size r ([] ++ [82, UInt8.ofNat op.toNat] ++ vNum code) code n t p z cap w9 HW9.out (HZ.out.below HB9.out) (by have := HLEN.out; have := vNum_len code; simp only [List.length_append, List.length_nil, List.length_cons]; omega))
        clear hc0
        go_wp2_with fail
        refine TC.out.mono ?_
        rintro x wa ⟨rfl, ha, ba, oa⟩
        have HBa := Lib.hid (HB9.out.trans ba)
        obtain ⟨be, hbe⟩ : ∃ be, bodyE 3 n t z = be := ⟨_, rfl⟩
        rw [hbe] at ha hres
        have hL : [] ++ [82, UInt8.ofNat op.toNat] ++ vNum code ++ bodyB 3 n t z = [82, UInt8.ofNat op.toNat] ++ vNum code ++ bodyB 3 n t z := by simp
        have hne : [82, UInt8.ofNat op.toNat] ++ vNum code ++ bodyB 3 n t z ≠ [] := by simp
        rw [hL] at ha
        clear hL hbe
        generalize hout : [82, UInt8.ofNat op.toNat] ++ vNum code ++ bodyB 3 n t z = out at ha hres hne
        have DN := Lib.hid (done_calls w.heap.size r out be wa ha hne)
        clear ha ba oa q0 q1 q2 q3 t3 hne HW9 HQ9 HB9 HT9 TC
        go_wp2_with fail
        refine DN.out.mono ?_
        rintro x wb ⟨rfl, bb⟩
        have HBb := Lib.hid (HBa.out.trans bb)
        clear bb HBa
        by_cases hb0 : be = 0
        · subst hb0
          rw [if_neg (by decide)] at hres
          subst hres
          go_wp2
          go_ret2
          exact ⟨rfl, HBb.out⟩
        · rw [if_pos hb0] at hres
          subst hres
          rw [if_neg hb0]
          clear hb0
          go_wp2
          go_ret2
          exact ⟨rfl, HBb.out⟩
      · have hcb : (code == 0) = false := by rw [beq_eq_false_iff_ne]; exact hc0
        rw [if_pos hc0] at hres
        clear hc0
        have hne : [] ++ [82, UInt8.ofNat op.toNat] ++ vNum code ≠ [] := by simp
        have h9 := HW9.out
        generalize hout : [] ++ [82, UInt8.ofNat op.toNat] ++ vNum code = out at h9 hne
        have hout2 : [82, UInt8.ofNat op.toNat] ++ vNum code = out := by rw [← hout]; simp
        rw [hout2] at hres
        subst hres
        have DN := Lib.hid (done_calls w.heap.size r out 0 w9 h9 hne)
        rw [if_pos rfl] at DN
        clear h9 hne hout hout2 HW9
        go_wp2_with fail
        refine DN.out.mono ?_
        rintro x wb ⟨rfl, bb⟩
        have HBb := Lib.hid (HB9.out.trans bb)
        clear bb
        go_wp2
        go_ret2
        exact ⟨rfl, HBb.out⟩
    · rw [if_pos rfl] at hres
      subst hres
      go_wp2
      go_ret2
      exact ⟨rfl, hb5⟩

set_option maxRecDepth 100000 in
set_option maxHeartbeats 1000000 in
theorem tell_4 (op : Int) (hop : 1 ≤ op ∧ op ≤ 9) (x0 x1 x2 x4 : FuncId) (hidx : ∀ W : World, (Instr.index 68 (.agg opsT) (.int .i64 op)).run Try.prog W = .ok (.agg #[.func (.func x0) #[] #[], .func (.func x1) #[] #[], .func (.func x2) #[] #[], .func (.func 68) #[] #[], .func (.func x4) #[] #[], .func (.func 70) #[] #[]]) W) (code n : Int) (hco : 0 ≤ code ∧ code ≤ 999) (t : ByteArray) (p : Option Addr) (cap : Nat) (z : List Hv) (w : World) (hz : HR w w.heap.size p z) (hlen : t.size + (hitsB z).length + 128 ≤ 140737488355328) :
    Calls Try.prog 13 #[.int .i64 op, .agg #[.int .i64 code, .int .i64 n, .string t, .slice p z.length cap]] w fun x w' => x = .returned (.tuple #[.string ⟨(tellO 4 op code n t z).1.toArray⟩, .int .i64 (tellO 4 op code n t z).2]) ∧ Below w.heap.size w w' := by
  have hbu1 : ∀ W : World, (Instr.build 87 #[]).run Try.prog W = .ok (.agg #[.pointer none, .slice none 0 0, .int .i64 0]) W := fun W => run_build W _ _ _ (by kernel_rfl)
  have K := Lib.hid (fun W => known_calls op W)
  have hkn : decide (1 ≤ op ∧ op ≤ 9) = true := by simpa using hop
  rw [hkn] at K
  have O := Lib.hid (fun W => operations_calls W)
  have EM := Lib.hid (fun W => e_emptyHits_calls code n t p z.length cap W)
  have Z1 := Lib.hid (fun W => zero_calls code n t p z.length cap W)
  have Z2 := Lib.hid (fun W => zero_calls code n t none 0 0 W)
  have HBq := Lib.hid ((Below.refl w.heap.size w).alloc (Nat.le_refl _) (.cells #[.int .i64 code, .int .i64 n, .string t, .slice p z.length cap] 33))
  have HQ := Lib.hid (Rp.new w code n t (.slice p z.length cap))
  have HZ := Lib.hid hz
  have HLEN := Lib.hid hlen
  obtain ⟨res, hres⟩ : ∃ res, tellO 4 op code n t z = res := ⟨_, rfl⟩
  rw [hres]
  unfold tellO at hres
  have dc1 : decide (code < 0) = false := by simp; omega
  have dc2 : decide (999 < code) = false := by simp; omega
  clear hkn hz hlen
  go_enter Try.func13, Try.ntmps13
  go_wp2_with fail
  refine (K.out _).mono ?_
  rintro x y ⟨rfl, rfl⟩
  have hsz : w.heap.size < (w.alloc (.cells #[.int .i64 code, .int .i64 n, .string t, .slice p z.length cap] 33)).heap.size := by simp
  generalize w.alloc (.cells #[.int .i64 code, .int .i64 n, .string t, .slice p z.length cap] 33) = w1 at HBq HQ hsz ⊢
  obtain ⟨q0, q1, q2, q3, qf⟩ := HQ.out.cells
  clear qf
  go_wp2_with fail
  refine (O.out _).mono ?_
  rintro x w3 ⟨rfl, k3⟩
  have HQ3 := Lib.hid (HQ.out.of (k3.block _ hsz))
  have HB3 := Lib.hid (HBq.out.trans (k3.mono (Nat.le_of_lt hsz)))
  clear k3 q0 q1 q2 q3 HQ HBq hsz
  go_upto_region 6 with fail
  have HT4 := Lib.hid (heap_alloc_last w3 (.cells #[.func (.func x0) #[] #[], .func (.func x1) #[] #[], .func (.func x2) #[] #[], .func (.func 68) #[] #[], .func (.func x4) #[] #[], .func (.func 70) #[] #[]] 67))
  have HQ4 := Lib.hid (HQ3.out.alloc (.cells #[.func (.func x0) #[] #[], .func (.func x1) #[] #[], .func (.func x2) #[] #[], .func (.func 68) #[] #[], .func (.func x4) #[] #[], .func (.func 70) #[] #[]] 67))
  have HB4 := Lib.hid (HB3.out.alloc HB3.out.size (.cells #[.func (.func x0) #[] #[], .func (.func x1) #[] #[], .func (.func x2) #[] #[], .func (.func 68) #[] #[], .func (.func x4) #[] #[], .func (.func 70) #[] #[]] 67))
  obtain ⟨g, hg⟩ : ∃ g, w3.heap.size = g := ⟨_, rfl⟩
  generalize w3.alloc (.cells #[.func (.func x0) #[] #[], .func (.func x1) #[] #[], .func (.func x2) #[] #[], .func (.func 68) #[] #[], .func (.func x4) #[] #[], .func (.func 70) #[] #[]] 67) = w4 at HT4 HQ4 HB4 ⊢
  rw [hg] at HT4 ⊢
  clear hg HQ3 HB3 hidx
  obtain ⟨q0, q1, q2, q3, qf⟩ := HQ4.out.cells
  have t5 : w4.cell? ⟨g, 5, none⟩ = some (.func (.func 70) #[] #[]) := by unfold World.cell?; rw [HT4.out]; rfl
  have hgl : g < w4.heap.size := (Array.getElem?_eq_some_iff.1 HT4.out).1
  obtain ⟨fb, hfb⟩ : ∃ fb, tellBad 4 code n t z.length = fb := ⟨_, rfl⟩
  rw [hfb] at hres
  unfold tellBad at hfb
  have hfb2 : ((code != 0 && !zeroB n t z.length) || !(zeroB n t 0)) = fb := by rw [← hfb]; rfl
  clear hfb qf
  go_cut [37] (fun s37 wx => s37 = .bool fb ∧ Rp wx w.heap.size code n t (.slice p z.length cap) ∧ Below w.heap.size w wx ∧ wx.heap[g]? = some (.cells #[.func (.func x0) #[] #[], .func (.func x1) #[] #[], .func (.func x2) #[] #[], .func (.func 68) #[] #[], .func (.func x4) #[] #[], .func (.func 70) #[] #[]] 67 (0, 0)))
  case first =>
    clear hres
    obtain ⟨b2, hb2⟩ : ∃ b2, zeroB n t 0 = b2 := ⟨_, rfl⟩
    rw [hb2] at Z2 hfb2
    by_cases hc0 : code = 0
    · have hcb : (code != 0) = false := by rw [bne_eq_false_iff_eq]; exact hc0
      rw [hcb, Bool.false_and, Bool.false_or] at hfb2
      subst hfb2
      clear hc0 hb2 Z1
      go_wp2_with fail
      refine (EM.out _).mono ?_
      rintro x w5 ⟨rfl, k5⟩
      have HQ5 := Lib.hid (HQ4.out.of (k5.block _ HQ4.out.lt))
      have HB5 := Lib.hid (HB4.out.trans (k5.mono (Nat.le_of_lt HQ4.out.lt)))
      have HT5 := Lib.hid ((k5.block _ hgl).trans HT4.out)
      clear k5 q0 q1 q2 q3 t5
      go_wp2_with fail
      refine (Z2.out _).mono ?_
      rintro x w6 ⟨rfl, k6⟩
      have HQ6 := Lib.hid (HQ5.out.of (k6.block _ HQ5.out.lt))
      have HB6 := Lib.hid (HB5.out.trans (k6.mono (Nat.le_of_lt HQ5.out.lt)))
      have HT6 := Lib.hid ((k6.block _ (Array.getElem?_eq_some_iff.1 HT5.out).1).trans HT5.out)
      clear k6
      go_wp2_with fail
      go_meet
      exact ⟨rfl, HQ6.out, HB6.out, HT6.out⟩
    · have hcb : (code != 0) = true := by rw [bne_iff_ne]; exact hc0
      rw [hcb, Bool.true_and] at hfb2
      obtain ⟨b1, hb1⟩ : ∃ b1, zeroB n t z.length = b1 := ⟨_, rfl⟩
      rw [hb1] at Z1 hfb2
      clear hb1 hb2
      clear hc0
      go_wp2_with fail
      refine (Z1.out _).mono ?_
      rintro x w5 ⟨rfl, k5⟩
      have HQ5 := Lib.hid (HQ4.out.of (k5.block _ HQ4.out.lt))
      have HB5 := Lib.hid (HB4.out.trans (k5.mono (Nat.le_of_lt HQ4.out.lt)))
      have HT5 := Lib.hid ((k5.block _ hgl).trans HT4.out)
      clear k5 q0 q1 q2 q3 t5
      cases b1
      · rw [Bool.not_false, Bool.true_or] at hfb2
        subst hfb2
        go_wp2_with fail
        go_meet
        exact ⟨rfl, HQ5.out, HB5.out, HT5.out⟩
      · rw [Bool.not_true, Bool.false_or] at hfb2
        subst hfb2
        obtain ⟨q0, q1, q2, q3, qf⟩ := HQ5.out.cells
        have t5 : w5.cell? ⟨g, 5, none⟩ = some (.func (.func 70) #[] #[]) := by unfold World.cell?; rw [HT5.out]; rfl
        clear qf
        go_wp2_with fail
        refine (EM.out _).mono ?_
        rintro x w6 ⟨rfl, k6⟩
        have HQ6 := Lib.hid (HQ5.out.of (k6.block _ HQ5.out.lt))
        have HB6 := Lib.hid (HB5.out.trans (k6.mono (Nat.le_of_lt HQ5.out.lt)))
        have HT6 := Lib.hid ((k6.block _ (Array.getElem?_eq_some_iff.1 HT5.out).1).trans HT5.out)
        clear k6 q0 q1 q2 q3 t5
        go_wp2_with fail
        refine (Z2.out _).mono ?_
        rintro x w7 ⟨rfl, k7⟩
        have HQ7 := Lib.hid (HQ6.out.of (k7.block _ HQ6.out.lt))
        have HB7 := Lib.hid (HB6.out.trans (k7.mono (Nat.le_of_lt HQ6.out.lt)))
        have HT7 := Lib.hid ((k7.block _ (Array.getElem?_eq_some_iff.1 HT6.out).1).trans HT6.out)
        clear k7
        go_wp2_with fail
        go_meet
        exact ⟨rfl, HQ7.out, HB7.out, HT7.out⟩
  case rest =>
    obtain ⟨rfl, hq5, hb5, hT5⟩ := hcut
    clear q0 q1 q2 q3 t5 hfb2 HQ4 HB4 HT4 hgl Z1 Z2 EM
    obtain ⟨w5, rfl⟩ : ∃ w5 : World, w5 = wc := ⟨_, rfl⟩
    cases fb
    · rw [if_neg (by decide)] at hres
      have HQ5 := Lib.hid hq5
      have HB5 := Lib.hid hb5
      have HT5 := Lib.hid hT5
      clear hq5 hb5 hT5
      have HW := Lib.hid (Wr.new' (B := w.heap.size) w5 HB5.out.size)
      have HQ6 := Lib.hid (HQ5.out.alloc (.cells #[.pointer none, .slice none 0 0, .int .i64 0] 87))
      have HT6 := Lib.hid ((Below.heap_alloc w5 (.cells #[.pointer none, .slice none 0 0, .int .i64 0] 87) g (Array.getElem?_eq_some_iff.1 HT5.out).1).trans HT5.out)
      have HB6 := Lib.hid (HB5.out.alloc HB5.out.size (.cells #[.pointer none, .slice none 0 0, .int .i64 0] 87))
      have hqr : w.heap.size ≠ w5.heap.size := by have := HQ5.out.lt; omega
      have hgr : g ≠ w5.heap.size := by have := (Array.getElem?_eq_some_iff.1 HT5.out).1; omega
      have hwo : IntKind.u8.wrap op = op := by rw [IntKind.wrap_u8]; omega
      go_upto_region 9 with fail
      obtain ⟨r, hr⟩ : ∃ r, w5.heap.size = r := ⟨_, rfl⟩
      generalize w5.alloc (.cells #[.pointer none, .slice none 0 0, .int .i64 0] 87) = w6 at HW HQ6 HT6 HB6 ⊢
      rw [hr] at HW hqr hgr ⊢
      clear HQ5 HT5 HB5 hr
      have hgw : w6.heap.size ≠ r := by have := HW.out.lt; omega
      have hqs := HQ6.out.lt
      have hgs : g < w6.heap.size := (Array.getElem?_eq_some_iff.1 HT6.out).1
      have WA := Lib.hid (HW.out.alloc (.cells #[.int .u8 82, .int .u8 op] 5))
      have WC := Lib.hid (Write_calls w.heap.size r [] 0 w6.heap.size 82 (UInt8.ofNat op.toNat) _ WA.out (by decide) (two_cells' w6 op hop) hgw)
      go_wp2_with fail
      refine WC.out.mono ?_
      rintro x w8 ⟨rfl, h8, b8, o8⟩
      have HW8 := Lib.hid h8.wr
      have HQ8 := Lib.hid ((HQ6.out.alloc _).of (o8 _ _ _ _ hqr (by decide) (HQ6.out.alloc _)))
      have HB8 := Lib.hid ((HB6.out.alloc HB6.out.size _).trans b8)
      have HT8 := Lib.hid ((o8 _ _ _ _ hgr (by decide) ((Below.heap_alloc w6 _ _ hgs).trans HT6.out)).trans ((Below.heap_alloc w6 _ _ hgs).trans HT6.out))
      clear h8 b8 o8 WC WA HW HQ6 HT6 HB6 hgw hqs hgs
      obtain ⟨q0, q1, q2, q3, qf⟩ := HQ8.out.cells
      clear qf
      have NU := Lib.hid (wnumber_calls w.heap.size r ([] ++ [82, UInt8.ofNat op.toNat]) 0 code w8 HW8.out (by simp))
      rw [dc1, show rf false 13 0 = 0 by simp [rf]] at NU
      go_wp2_with fail
      refine NU.out.mono ?_
      rintro x w9 ⟨rfl, h9, b9, o9⟩
      have HW9 := Lib.hid h9
      have HQ9 := Lib.hid (HQ8.out.of (o9 _ _ _ _ hqr (by decide) HQ8.out))
      have HB9 := Lib.hid (HB8.out.trans b9)
      have HT9 := Lib.hid ((o9 _ _ _ _ hgr (by decide) HT8.out).trans HT8.out)
      clear h9 b9 o9 q0 q1 q2 q3 HW8 HQ8 HB8 HT8 NU
      obtain ⟨q0, q1, q2, q3, qf⟩ := HQ9.out.cells
      clear qf
      by_cases hc0 : code = 0
      · have hcb : (code == 0) = true := by rw [beq_iff_eq]; exact hc0
        rw [if_neg (fun h => h hc0)] at hres
        have t3 : w9.cell? ⟨g, 3, none⟩ = some (.func (.func 68) #[] #[]) := by unfold World.cell?; rw [HT9.out]; rfl
        have TC := Lib.hid (t_tellHits_calls w.heap.size r ([] ++ [82, UInt8.ofNat op.toNat] ++ vNum code) code n t p z cap w9 HW9.out (HZ.out.below HB9.out) (by have := HLEN.out; have := vNum_len code; simp only [List.length_append, List.length_nil, List.length_cons]; omega))
        clear hc0
        go_wp2_with fail
        refine TC.out.mono ?_
        rintro x wa ⟨rfl, ha, ba, oa⟩
        have HBa := Lib.hid (HB9.out.trans ba)
        obtain ⟨be, hbe⟩ : ∃ be, bodyE 4 n t z = be := ⟨_, rfl⟩
        rw [hbe] at ha hres
        have hL : [] ++ [82, UInt8.ofNat op.toNat] ++ vNum code ++ bodyB 4 n t z = [82, UInt8.ofNat op.toNat] ++ vNum code ++ bodyB 4 n t z := by simp
        have hne : [82, UInt8.ofNat op.toNat] ++ vNum code ++ bodyB 4 n t z ≠ [] := by simp
        rw [hL] at ha
        clear hL hbe
        generalize hout : [82, UInt8.ofNat op.toNat] ++ vNum code ++ bodyB 4 n t z = out at ha hres hne
        have DN := Lib.hid (done_calls w.heap.size r out be wa ha hne)
        clear ha ba oa q0 q1 q2 q3 t3 hne HW9 HQ9 HB9 HT9 TC
        go_wp2_with fail
        refine DN.out.mono ?_
        rintro x wb ⟨rfl, bb⟩
        have HBb := Lib.hid (HBa.out.trans bb)
        clear bb HBa
        by_cases hb0 : be = 0
        · subst hb0
          rw [if_neg (by decide)] at hres
          subst hres
          go_wp2
          go_ret2
          exact ⟨rfl, HBb.out⟩
        · rw [if_pos hb0] at hres
          subst hres
          rw [if_neg hb0]
          clear hb0
          go_wp2
          go_ret2
          exact ⟨rfl, HBb.out⟩
      · have hcb : (code == 0) = false := by rw [beq_eq_false_iff_ne]; exact hc0
        rw [if_pos hc0] at hres
        clear hc0
        have hne : [] ++ [82, UInt8.ofNat op.toNat] ++ vNum code ≠ [] := by simp
        have h9 := HW9.out
        generalize hout : [] ++ [82, UInt8.ofNat op.toNat] ++ vNum code = out at h9 hne
        have hout2 : [82, UInt8.ofNat op.toNat] ++ vNum code = out := by rw [← hout]; simp
        rw [hout2] at hres
        subst hres
        have DN := Lib.hid (done_calls w.heap.size r out 0 w9 h9 hne)
        rw [if_pos rfl] at DN
        clear h9 hne hout hout2 HW9
        go_wp2_with fail
        refine DN.out.mono ?_
        rintro x wb ⟨rfl, bb⟩
        have HBb := Lib.hid (HB9.out.trans bb)
        clear bb
        go_wp2
        go_ret2
        exact ⟨rfl, HBb.out⟩
    · rw [if_pos rfl] at hres
      subst hres
      go_wp2
      go_ret2
      exact ⟨rfl, hb5⟩

set_option maxRecDepth 100000 in
set_option maxHeartbeats 1000000 in
theorem tell_6 (op : Int) (hop : 1 ≤ op ∧ op ≤ 9) (x0 x1 x2 x4 : FuncId) (hidx : ∀ W : World, (Instr.index 68 (.agg opsT) (.int .i64 op)).run Try.prog W = .ok (.agg #[.func (.func x0) #[] #[], .func (.func x1) #[] #[], .func (.func x2) #[] #[], .func (.func 77) #[] #[], .func (.func x4) #[] #[], .func (.func 79) #[] #[]]) W) (code n : Int) (hco : 0 ≤ code ∧ code ≤ 999) (t : ByteArray) (p : Option Addr) (cap : Nat) (z : List Hv) (w : World) (hz : HR w w.heap.size p z) (hlen : t.size + (hitsB z).length + 128 ≤ 140737488355328) :
    Calls Try.prog 13 #[.int .i64 op, .agg #[.int .i64 code, .int .i64 n, .string t, .slice p z.length cap]] w fun x w' => x = .returned (.tuple #[.string ⟨(tellO 6 op code n t z).1.toArray⟩, .int .i64 (tellO 6 op code n t z).2]) ∧ Below w.heap.size w w' := by
  have hbu1 : ∀ W : World, (Instr.build 87 #[]).run Try.prog W = .ok (.agg #[.pointer none, .slice none 0 0, .int .i64 0]) W := fun W => run_build W _ _ _ (by kernel_rfl)
  have K := Lib.hid (fun W => known_calls op W)
  have hkn : decide (1 ≤ op ∧ op ≤ 9) = true := by simpa using hop
  rw [hkn] at K
  have O := Lib.hid (fun W => operations_calls W)
  have EM := Lib.hid (fun W => e_emptyN_calls code n t p z.length cap W)
  have Z1 := Lib.hid (fun W => zero_calls code n t p z.length cap W)
  have Z2 := Lib.hid (fun W => zero_calls code 0 t p z.length cap W)
  have HBq := Lib.hid ((Below.refl w.heap.size w).alloc (Nat.le_refl _) (.cells #[.int .i64 code, .int .i64 n, .string t, .slice p z.length cap] 33))
  have HQ := Lib.hid (Rp.new w code n t (.slice p z.length cap))
  have HZ := Lib.hid hz
  have HLEN := Lib.hid hlen
  obtain ⟨res, hres⟩ : ∃ res, tellO 6 op code n t z = res := ⟨_, rfl⟩
  rw [hres]
  unfold tellO at hres
  have dc1 : decide (code < 0) = false := by simp; omega
  have dc2 : decide (999 < code) = false := by simp; omega
  clear hkn hz hlen
  go_enter Try.func13, Try.ntmps13
  go_wp2_with fail
  refine (K.out _).mono ?_
  rintro x y ⟨rfl, rfl⟩
  have hsz : w.heap.size < (w.alloc (.cells #[.int .i64 code, .int .i64 n, .string t, .slice p z.length cap] 33)).heap.size := by simp
  generalize w.alloc (.cells #[.int .i64 code, .int .i64 n, .string t, .slice p z.length cap] 33) = w1 at HBq HQ hsz ⊢
  obtain ⟨q0, q1, q2, q3, qf⟩ := HQ.out.cells
  clear qf
  go_wp2_with fail
  refine (O.out _).mono ?_
  rintro x w3 ⟨rfl, k3⟩
  have HQ3 := Lib.hid (HQ.out.of (k3.block _ hsz))
  have HB3 := Lib.hid (HBq.out.trans (k3.mono (Nat.le_of_lt hsz)))
  clear k3 q0 q1 q2 q3 HQ HBq hsz
  go_upto_region 6 with fail
  have HT4 := Lib.hid (heap_alloc_last w3 (.cells #[.func (.func x0) #[] #[], .func (.func x1) #[] #[], .func (.func x2) #[] #[], .func (.func 77) #[] #[], .func (.func x4) #[] #[], .func (.func 79) #[] #[]] 67))
  have HQ4 := Lib.hid (HQ3.out.alloc (.cells #[.func (.func x0) #[] #[], .func (.func x1) #[] #[], .func (.func x2) #[] #[], .func (.func 77) #[] #[], .func (.func x4) #[] #[], .func (.func 79) #[] #[]] 67))
  have HB4 := Lib.hid (HB3.out.alloc HB3.out.size (.cells #[.func (.func x0) #[] #[], .func (.func x1) #[] #[], .func (.func x2) #[] #[], .func (.func 77) #[] #[], .func (.func x4) #[] #[], .func (.func 79) #[] #[]] 67))
  obtain ⟨g, hg⟩ : ∃ g, w3.heap.size = g := ⟨_, rfl⟩
  generalize w3.alloc (.cells #[.func (.func x0) #[] #[], .func (.func x1) #[] #[], .func (.func x2) #[] #[], .func (.func 77) #[] #[], .func (.func x4) #[] #[], .func (.func 79) #[] #[]] 67) = w4 at HT4 HQ4 HB4 ⊢
  rw [hg] at HT4 ⊢
  clear hg HQ3 HB3 hidx
  obtain ⟨q0, q1, q2, q3, qf⟩ := HQ4.out.cells
  have t5 : w4.cell? ⟨g, 5, none⟩ = some (.func (.func 79) #[] #[]) := by unfold World.cell?; rw [HT4.out]; rfl
  have hgl : g < w4.heap.size := (Array.getElem?_eq_some_iff.1 HT4.out).1
  obtain ⟨fb, hfb⟩ : ∃ fb, tellBad 6 code n t z.length = fb := ⟨_, rfl⟩
  rw [hfb] at hres
  unfold tellBad at hfb
  have hfb2 : ((code != 0 && !zeroB n t z.length) || !(zeroB 0 t z.length)) = fb := by rw [← hfb]; rfl
  clear hfb qf
  go_cut [37] (fun s37 wx => s37 = .bool fb ∧ Rp wx w.heap.size code n t (.slice p z.length cap) ∧ Below w.heap.size w wx ∧ wx.heap[g]? = some (.cells #[.func (.func x0) #[] #[], .func (.func x1) #[] #[], .func (.func x2) #[] #[], .func (.func 77) #[] #[], .func (.func x4) #[] #[], .func (.func 79) #[] #[]] 67 (0, 0)))
  case first =>
    clear hres
    obtain ⟨b2, hb2⟩ : ∃ b2, zeroB 0 t z.length = b2 := ⟨_, rfl⟩
    rw [hb2] at Z2 hfb2
    by_cases hc0 : code = 0
    · have hcb : (code != 0) = false := by rw [bne_eq_false_iff_eq]; exact hc0
      rw [hcb, Bool.false_and, Bool.false_or] at hfb2
      subst hfb2
      clear hc0 hb2 Z1
      go_wp2_with fail
      refine (EM.out _).mono ?_
      rintro x w5 ⟨rfl, k5⟩
      have HQ5 := Lib.hid (HQ4.out.of (k5.block _ HQ4.out.lt))
      have HB5 := Lib.hid (HB4.out.trans (k5.mono (Nat.le_of_lt HQ4.out.lt)))
      have HT5 := Lib.hid ((k5.block _ hgl).trans HT4.out)
      clear k5 q0 q1 q2 q3 t5
      go_wp2_with fail
      refine (Z2.out _).mono ?_
      rintro x w6 ⟨rfl, k6⟩
      have HQ6 := Lib.hid (HQ5.out.of (k6.block _ HQ5.out.lt))
      have HB6 := Lib.hid (HB5.out.trans (k6.mono (Nat.le_of_lt HQ5.out.lt)))
      have HT6 := Lib.hid ((k6.block _ (Array.getElem?_eq_some_iff.1 HT5.out).1).trans HT5.out)
      clear k6
      go_wp2_with fail
      go_meet
      exact ⟨rfl, HQ6.out, HB6.out, HT6.out⟩
    · have hcb : (code != 0) = true := by rw [bne_iff_ne]; exact hc0
      rw [hcb, Bool.true_and] at hfb2
      obtain ⟨b1, hb1⟩ : ∃ b1, zeroB n t z.length = b1 := ⟨_, rfl⟩
      rw [hb1] at Z1 hfb2
      clear hb1 hb2
      clear hc0
      go_wp2_with fail
      refine (Z1.out _).mono ?_
      rintro x w5 ⟨rfl, k5⟩
      have HQ5 := Lib.hid (HQ4.out.of (k5.block _ HQ4.out.lt))
      have HB5 := Lib.hid (HB4.out.trans (k5.mono (Nat.le_of_lt HQ4.out.lt)))
      have HT5 := Lib.hid ((k5.block _ hgl).trans HT4.out)
      clear k5 q0 q1 q2 q3 t5
      cases b1
      · rw [Bool.not_false, Bool.true_or] at hfb2
        subst hfb2
        go_wp2_with fail
        go_meet
        exact ⟨rfl, HQ5.out, HB5.out, HT5.out⟩
      · rw [Bool.not_true, Bool.false_or] at hfb2
        subst hfb2
        obtain ⟨q0, q1, q2, q3, qf⟩ := HQ5.out.cells
        have t5 : w5.cell? ⟨g, 5, none⟩ = some (.func (.func 79) #[] #[]) := by unfold World.cell?; rw [HT5.out]; rfl
        clear qf
        go_wp2_with fail
        refine (EM.out _).mono ?_
        rintro x w6 ⟨rfl, k6⟩
        have HQ6 := Lib.hid (HQ5.out.of (k6.block _ HQ5.out.lt))
        have HB6 := Lib.hid (HB5.out.trans (k6.mono (Nat.le_of_lt HQ5.out.lt)))
        have HT6 := Lib.hid ((k6.block _ (Array.getElem?_eq_some_iff.1 HT5.out).1).trans HT5.out)
        clear k6 q0 q1 q2 q3 t5
        go_wp2_with fail
        refine (Z2.out _).mono ?_
        rintro x w7 ⟨rfl, k7⟩
        have HQ7 := Lib.hid (HQ6.out.of (k7.block _ HQ6.out.lt))
        have HB7 := Lib.hid (HB6.out.trans (k7.mono (Nat.le_of_lt HQ6.out.lt)))
        have HT7 := Lib.hid ((k7.block _ (Array.getElem?_eq_some_iff.1 HT6.out).1).trans HT6.out)
        clear k7
        go_wp2_with fail
        go_meet
        exact ⟨rfl, HQ7.out, HB7.out, HT7.out⟩
  case rest =>
    obtain ⟨rfl, hq5, hb5, hT5⟩ := hcut
    clear q0 q1 q2 q3 t5 hfb2 HQ4 HB4 HT4 hgl Z1 Z2 EM
    obtain ⟨w5, rfl⟩ : ∃ w5 : World, w5 = wc := ⟨_, rfl⟩
    cases fb
    · rw [if_neg (by decide)] at hres
      have HQ5 := Lib.hid hq5
      have HB5 := Lib.hid hb5
      have HT5 := Lib.hid hT5
      clear hq5 hb5 hT5
      have HW := Lib.hid (Wr.new' (B := w.heap.size) w5 HB5.out.size)
      have HQ6 := Lib.hid (HQ5.out.alloc (.cells #[.pointer none, .slice none 0 0, .int .i64 0] 87))
      have HT6 := Lib.hid ((Below.heap_alloc w5 (.cells #[.pointer none, .slice none 0 0, .int .i64 0] 87) g (Array.getElem?_eq_some_iff.1 HT5.out).1).trans HT5.out)
      have HB6 := Lib.hid (HB5.out.alloc HB5.out.size (.cells #[.pointer none, .slice none 0 0, .int .i64 0] 87))
      have hqr : w.heap.size ≠ w5.heap.size := by have := HQ5.out.lt; omega
      have hgr : g ≠ w5.heap.size := by have := (Array.getElem?_eq_some_iff.1 HT5.out).1; omega
      have hwo : IntKind.u8.wrap op = op := by rw [IntKind.wrap_u8]; omega
      go_upto_region 9 with fail
      obtain ⟨r, hr⟩ : ∃ r, w5.heap.size = r := ⟨_, rfl⟩
      generalize w5.alloc (.cells #[.pointer none, .slice none 0 0, .int .i64 0] 87) = w6 at HW HQ6 HT6 HB6 ⊢
      rw [hr] at HW hqr hgr ⊢
      clear HQ5 HT5 HB5 hr
      have hgw : w6.heap.size ≠ r := by have := HW.out.lt; omega
      have hqs := HQ6.out.lt
      have hgs : g < w6.heap.size := (Array.getElem?_eq_some_iff.1 HT6.out).1
      have WA := Lib.hid (HW.out.alloc (.cells #[.int .u8 82, .int .u8 op] 5))
      have WC := Lib.hid (Write_calls w.heap.size r [] 0 w6.heap.size 82 (UInt8.ofNat op.toNat) _ WA.out (by decide) (two_cells' w6 op hop) hgw)
      go_wp2_with fail
      refine WC.out.mono ?_
      rintro x w8 ⟨rfl, h8, b8, o8⟩
      have HW8 := Lib.hid h8.wr
      have HQ8 := Lib.hid ((HQ6.out.alloc _).of (o8 _ _ _ _ hqr (by decide) (HQ6.out.alloc _)))
      have HB8 := Lib.hid ((HB6.out.alloc HB6.out.size _).trans b8)
      have HT8 := Lib.hid ((o8 _ _ _ _ hgr (by decide) ((Below.heap_alloc w6 _ _ hgs).trans HT6.out)).trans ((Below.heap_alloc w6 _ _ hgs).trans HT6.out))
      clear h8 b8 o8 WC WA HW HQ6 HT6 HB6 hgw hqs hgs
      obtain ⟨q0, q1, q2, q3, qf⟩ := HQ8.out.cells
      clear qf
      have NU := Lib.hid (wnumber_calls w.heap.size r ([] ++ [82, UInt8.ofNat op.toNat]) 0 code w8 HW8.out (by simp))
      rw [dc1, show rf false 13 0 = 0 by simp [rf]] at NU
      go_wp2_with fail
      refine NU.out.mono ?_
      rintro x w9 ⟨rfl, h9, b9, o9⟩
      have HW9 := Lib.hid h9
      have HQ9 := Lib.hid (HQ8.out.of (o9 _ _ _ _ hqr (by decide) HQ8.out))
      have HB9 := Lib.hid (HB8.out.trans b9)
      have HT9 := Lib.hid ((o9 _ _ _ _ hgr (by decide) HT8.out).trans HT8.out)
      clear h9 b9 o9 q0 q1 q2 q3 HW8 HQ8 HB8 HT8 NU
      obtain ⟨q0, q1, q2, q3, qf⟩ := HQ9.out.cells
      clear qf
      by_cases hc0 : code = 0
      · have hcb : (code == 0) = true := by rw [beq_iff_eq]; exact hc0
        rw [if_neg (fun h => h hc0)] at hres
        have t3 : w9.cell? ⟨g, 3, none⟩ = some (.func (.func 77) #[] #[]) := by unfold World.cell?; rw [HT9.out]; rfl
        have TC := Lib.hid (t_tellN_calls w.heap.size r ([] ++ [82, UInt8.ofNat op.toNat] ++ vNum code) code n t p z cap w9 HW9.out (HZ.out.below HB9.out) (by have := HLEN.out; have := vNum_len code; simp only [List.length_append, List.length_nil, List.length_cons]; omega))
        clear hc0
        go_wp2_with fail
        refine TC.out.mono ?_
        rintro x wa ⟨rfl, ha, ba, oa⟩
        have HBa := Lib.hid (HB9.out.trans ba)
        obtain ⟨be, hbe⟩ : ∃ be, bodyE 6 n t z = be := ⟨_, rfl⟩
        rw [hbe] at ha hres
        have hL : [] ++ [82, UInt8.ofNat op.toNat] ++ vNum code ++ bodyB 6 n t z = [82, UInt8.ofNat op.toNat] ++ vNum code ++ bodyB 6 n t z := by simp
        have hne : [82, UInt8.ofNat op.toNat] ++ vNum code ++ bodyB 6 n t z ≠ [] := by simp
        rw [hL] at ha
        clear hL hbe
        generalize hout : [82, UInt8.ofNat op.toNat] ++ vNum code ++ bodyB 6 n t z = out at ha hres hne
        have DN := Lib.hid (done_calls w.heap.size r out be wa ha hne)
        clear ha ba oa q0 q1 q2 q3 t3 hne HW9 HQ9 HB9 HT9 TC
        go_wp2_with fail
        refine DN.out.mono ?_
        rintro x wb ⟨rfl, bb⟩
        have HBb := Lib.hid (HBa.out.trans bb)
        clear bb HBa
        by_cases hb0 : be = 0
        · subst hb0
          rw [if_neg (by decide)] at hres
          subst hres
          go_wp2
          go_ret2
          exact ⟨rfl, HBb.out⟩
        · rw [if_pos hb0] at hres
          subst hres
          rw [if_neg hb0]
          clear hb0
          go_wp2
          go_ret2
          exact ⟨rfl, HBb.out⟩
      · have hcb : (code == 0) = false := by rw [beq_eq_false_iff_ne]; exact hc0
        rw [if_pos hc0] at hres
        clear hc0
        have hne : [] ++ [82, UInt8.ofNat op.toNat] ++ vNum code ≠ [] := by simp
        have h9 := HW9.out
        generalize hout : [] ++ [82, UInt8.ofNat op.toNat] ++ vNum code = out at h9 hne
        have hout2 : [82, UInt8.ofNat op.toNat] ++ vNum code = out := by rw [← hout]; simp
        rw [hout2] at hres
        subst hres
        have DN := Lib.hid (done_calls w.heap.size r out 0 w9 h9 hne)
        rw [if_pos rfl] at DN
        clear h9 hne hout hout2 HW9
        go_wp2_with fail
        refine DN.out.mono ?_
        rintro x wb ⟨rfl, bb⟩
        have HBb := Lib.hid (HB9.out.trans bb)
        clear bb
        go_wp2
        go_ret2
        exact ⟨rfl, HBb.out⟩
    · rw [if_pos rfl] at hres
      subst hres
      go_wp2
      go_ret2
      exact ⟨rfl, hb5⟩

end Go.Proofs.Ytabhjkaheghbhaa

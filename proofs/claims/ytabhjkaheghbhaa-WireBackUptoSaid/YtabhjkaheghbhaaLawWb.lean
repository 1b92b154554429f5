/-
  THE LAW WireBack.
-/
import Derived.Test.YtabhjkaheghbhaaBackL
import Derived.Test.YtabhjkaheghbhaaBegun
import Derived.Test.YtabhjkaheghbhaaArgRq
import Derived.Test.YtabhjkaheghbhaaToldP
import Derived.Deep.DeepCutAuto
namespace Go.Proofs.Ytabhjkaheghbhaa
open Go.RowKit ArgK
set_option linter.unusedVariables false

theorem wf_top {a : Int} (h : (Lit.int .i64 a).wf = true) : a ≤ 9223372036854775807 := by
  simp [Lit.wf] at h
  omega
theorem hits_wf {w : World} {v : Value} {z : List Hv} (h : IsSl w 3 32 IsHit [v] z) : ∀ x ∈ z, (Lit.int .i64 x.d).wf = true ∧ (Lit.int .i64 x.i).wf = true := by
  obtain ⟨h1, h2⟩ := h
  intro x hx
  rcases h2 with ⟨h, rfl⟩ | ⟨a, cap, h, _, _, hc⟩
  · simp at hx
  · obtain ⟨i, hi, hx⟩ := List.getElem_of_mem hx
    obtain ⟨c, _, hr, _⟩ := hc i x (by rw [List.getElem?_eq_getElem hi, hx])
    exact ⟨hr.2.1, hr.2.2.1⟩
set_option maxRecDepth 100000 in
set_option maxHeartbeats 1000000 in
theorem wback_walk (qo id : Int) (c : ByteArray) (k rr op code n : Int) (t : ByteArray) (p : Option Addr) (cap : Nat) (z : List Hv) (more : ByteArray)
    (hi1 : id ≤ 9223372036854775807) (hi2 : k ≤ 9223372036854775807) (hi3 : rr ≤ 9223372036854775807) (hi4 : n ≤ 9223372036854775807) (hzw : ∀ x ∈ z, x.d ≤ 9223372036854775807 ∧ x.i ≤ 9223372036854775807)
    (hc : c.size ≤ 1048576) (ht : t.size ≤ 1048576) (hm : more.size ≤ 1048576) (hlen : (hitsB z).length ≤ 33554432) (hzl : z.length ≤ 1048576) (w : World) (hz : HL w p z) :
    Calls Try.prog 8 #[.agg #[.int .i64 qo, .int .i64 id, .string c, .int .i64 k, .int .i64 rr], .int .i64 op, .agg #[.int .i64 code, .int .i64 n, .string t, .slice p z.length cap], .string more] w fun e w' => e = .returned (.bool true) ∧ Below w.heap.size w w' := by
  have hbu1 : ∀ W : World, (Instr.build 24 #[]).run Try.prog W = .ok (.agg #[.int .i64 0, .int .i64 0, .string ⟨#[]⟩, .int .i64 0, .int .i64 0]) W := fun W => run_build W _ _ _ (by kernel_rfl)
  have hQ1 : Try.prog.eqGuardType Try.prog.depth 24 = false := by kernel_rfl
  have hNQ := fun W => neq_rq qo id c k rr id c k rr false (by simp) W
  have BG := Lib.hid (fun W => begun_calls W)
  have A1 := Lib.hid (fun W => Ask_calls qo id c k rr (by omega) W)
  have T1 := Lib.hid (fun (q : Option Addr) (cp : Nat) W h => Tell_calls op code n t q cp z W h (by omega))
  have BA := Lib.hid (fun h => back_ask (op := qo) (c := c) more hi1 hi2 hi3 h)
  have BT := Lib.hid (fun h => back_tell (op := op) (code := code) (t := t) more hi4 hzw h)
  have SM := Lib.hid (fun (p1 p2 : Option Addr) (c1 c2 : Nat) W h1 h2 => same_calls code n t p1 p2 c1 c2 z (by omega) W h1 h2)
  generalize (⟨(askOut qo id c k rr).1.toArray⟩ : ByteArray) = s at A1 BA
  generalize (askOut qo id c k rr).2 = e at A1 BA
  generalize (⟨(tellOut op code n t z).1.toArray⟩ : ByteArray) = u at T1 BT
  generalize (tellOut op code n t z).2 = f at T1 BT
  obtain ⟨HS, hHS⟩ : ∃ HS, (hitsB z).length = HS := ⟨_, rfl⟩
  have HHS := Lib.hid hHS
  rw [hHS] at hlen
  clear hHS
  have HZ := Lib.hid hz
  clear hz hi1 hi2 hi3 hi4 hzw
  have HB0 := Lib.hid (((Below.refl w.heap.size w).alloc (Nat.le_refl _) (.cells #[.int .i64 qo, .int .i64 id, .string c, .int .i64 k, .int .i64 rr] 24)).alloc (by simp) (.cells #[.int .i64 code, .int .i64 n, .string t, .slice p z.length cap] 33))
  have HQ0 := Lib.hid ((rq_box w qo id c k rr).alloc (.cells #[.int .i64 code, .int .i64 n, .string t, .slice p z.length cap] 33))
  have HR0 := Lib.hid (Rp.new (w.alloc (.cells #[.int .i64 qo, .int .i64 id, .string c, .int .i64 k, .int .i64 rr] 24)) code n t (.slice p z.length cap))
  have hs0 : (w.alloc (.cells #[.int .i64 qo, .int .i64 id, .string c, .int .i64 k, .int .i64 rr] 24)).heap.size = w.heap.size + 1 := by simp
  rw [hs0] at HR0
  clear hs0
  go_enter Try.func8, Try.ntmps8
  go_upto_region 1 with fail
  generalize (w.alloc (.cells #[.int .i64 qo, .int .i64 id, .string c, .int .i64 k, .int .i64 rr] 24)).alloc (.cells #[.int .i64 code, .int .i64 n, .string t, .slice p z.length cap] 33) = w0 at HB0 HQ0 HR0 ⊢
  go_wp2_with fail
  refine (BG.out _).mono ?_
  rintro x w1 ⟨rfl, k1⟩
  have HB1 := Lib.hid (HB0.out.trans (k1.mono HB0.out.size))
  have HQ1 := Lib.hid (HQ0.out.of (k1.block _ HQ0.out.lt))
  have HR1 := Lib.hid (HR0.out.of (k1.block _ HR0.out.lt))
  clear k1 HB0 HQ0 HR0
  obtain ⟨q0, q1, q2, q3, q4, _⟩ := HQ1.out.cells
  go_wp2_with fail
  refine (A1.out _).mono ?_
  rintro x w2 ⟨rfl, k2⟩
  have HB2 := Lib.hid (HB1.out.trans (k2.mono HB1.out.size))
  have HQ2 := Lib.hid (HQ1.out.of (k2.block _ HQ1.out.lt))
  have HR2 := Lib.hid (HR1.out.of (k2.block _ HR1.out.lt))
  clear k2 HB1 HQ1 HR1 q0 q1 q2 q3 q4
  go_upto_if 38 with fail
  go_cut [12] (fun s12 wx => Hid (Below w.heap.size w wx) ∧ Hid (Rp wx (w.heap.size + 1) code n t (.slice p z.length cap)))
  case first =>
    by_cases he : e = 0
    · have hee : (e == 0) = true := by rw [beq_iff_eq]; exact he
      obtain ⟨b1, b2, b3, b4, b5⟩ := BA.out he
      obtain ⟨N, hN⟩ : ∃ N, s.size = N + 1 := ⟨s.size - 1, by omega⟩
      have hN1 : s.size - 1 = N := by omega
      rw [hN1] at b5
      have hsm : (s ++ ⟨#[120]⟩ ++ more).size ≤ 4611686018427387904 := by
        rw [ByteArray.size_append, ByteArray.size_append]
        have : (⟨#[120]⟩ : ByteArray).size = 1 := rfl
        omega
      have hse : (s.extract 0 N).size ≤ 4611686018427387904 := by rw [ByteArray.size_extract]; omega
      have A2 := Lib.hid (fun W => Asked_calls s (by omega) W)
      have A3 := Lib.hid (fun W => Asked_calls (s ++ ⟨#[120]⟩ ++ more) hsm W)
      have A4 := Lib.hid (fun W => Asked_calls (s.extract 0 N) hse W)
      rw [b3] at A2
      rw [b4] at A3
      rw [b5] at A4
      simp only [rqC] at A2 A3 A4
      have hsz : (s.size : Int) = (N : Int) + 1 := by omega
      have hw1 : IntKind.i64.wrap (N : Int) = (N : Int) := by rw [IntKind.wrap_i64]; omega
      have hn0 : (0 : Int) ≤ (N : Int) := by omega
      have hn1 : (N : Int) ≤ (N : Int) + 1 := by omega
      have hcc : ¬ (s.size + 1 > 9223372036854775807) := by omega
      have hcc2 : ¬ (s.size + 1 + more.size > 9223372036854775807) := by omega
      clear b1 b2 b3 b4 b5 hsm hse hN1 he
      go_wp2_with fail
      refine (A2.out _).mono ?_
      rintro x w3 ⟨rfl, k3⟩
      have HB3 := Lib.hid (HB2.out.trans (k3.mono HB2.out.size))
      have HQ3 := Lib.hid (HQ2.out.of (k3.block _ HQ2.out.lt))
      have HR3 := Lib.hid (HR2.out.of (k3.block _ HR2.out.lt))
      clear k3 HB2 HQ2 HR2
      go_upto_region 5 with fail
      have HP4 := Lib.hid (rq_box w3 qo id c k rr)
      have HQ4 := Lib.hid (HQ3.out.alloc (.cells #[.int .i64 qo, .int .i64 id, .string c, .int .i64 k, .int .i64 rr] 24))
      have HR4 := Lib.hid (HR3.out.alloc (.cells #[.int .i64 qo, .int .i64 id, .string c, .int .i64 k, .int .i64 rr] 24))
      have HB4 := Lib.hid (HB3.out.alloc HB3.out.size (.cells #[.int .i64 qo, .int .i64 id, .string c, .int .i64 k, .int .i64 rr] 24))
      obtain ⟨P, hP⟩ : ∃ P, w3.heap.size = P := ⟨_, rfl⟩
      generalize w3.alloc (.cells #[.int .i64 qo, .int .i64 id, .string c, .int .i64 k, .int .i64 rr] 24) = w4 at HP4 HQ4 HR4 HB4 ⊢
      rw [hP] at HP4 ⊢
      clear hP HB3 HQ3 HR3
      obtain ⟨q0, q1, q2, q3, q4, _⟩ := HQ4.out.cells
      obtain ⟨p0, p1, p2, p3, p4, _⟩ := HP4.out.cells
      go_upto_region 7 with fail
      clear q0 q1 q2 q3 q4 p0 p1 p2 p3 p4 HP4 HQ4
      go_wp2_with fail
      refine (A3.out _).mono ?_
      rintro x w5 ⟨rfl, k5⟩
      have HB5 := Lib.hid (HB4.out.trans (k5.mono HB4.out.size))
      have HR5 := Lib.hid (HR4.out.of (k5.block _ HR4.out.lt))
      clear k5 HB4 HR4
      go_upto_region 8 with fail
      have HR6 := Lib.hid (HR5.out.alloc (.cells #[.int .i64 0, .int .i64 0, .string ⟨#[]⟩, .int .i64 0, .int .i64 0] 24))
      have HB6 := Lib.hid (HB5.out.alloc HB5.out.size (.cells #[.int .i64 0, .int .i64 0, .string ⟨#[]⟩, .int .i64 0, .int .i64 0] 24))
      obtain ⟨P6, hP6⟩ : ∃ P6, w5.heap.size = P6 := ⟨_, rfl⟩
      generalize w5.alloc (.cells #[.int .i64 0, .int .i64 0, .string ⟨#[]⟩, .int .i64 0, .int .i64 0] 24) = w6 at HR6 HB6 ⊢
      rw [hP6]
      clear hP6 HB5 HR5
      go_wp2_with fail
      refine (A4.out _).mono ?_
      rintro x w7 ⟨rfl, k7⟩
      have HB7 := Lib.hid (HB6.out.trans (k7.mono HB6.out.size))
      have HR7 := Lib.hid (HR6.out.of (k7.block _ HR6.out.lt))
      clear k7 HB6 HR6
      go_upto_region 9 with fail
      have HR8 := Lib.hid (HR7.out.alloc (.cells #[.int .i64 0, .int .i64 0, .string ⟨#[]⟩, .int .i64 0, .int .i64 0] 24))
      have HB8 := Lib.hid (HB7.out.alloc HB7.out.size (.cells #[.int .i64 0, .int .i64 0, .string ⟨#[]⟩, .int .i64 0, .int .i64 0] 24))
      obtain ⟨P8, hP8⟩ : ∃ P8, w7.heap.size = P8 := ⟨_, rfl⟩
      generalize w7.alloc (.cells #[.int .i64 0, .int .i64 0, .string ⟨#[]⟩, .int .i64 0, .int .i64 0] 24) = w8 at HR8 HB8 ⊢
      rw [hP8]
      clear hP8 HB7 HR7
      go_wp2_with fail
      go_meet
      exact ⟨HB8, HR8⟩
    · have hee : (e == 0) = false := by rw [beq_eq_false_iff_ne]; exact he
      go_wp2_with fail
      go_meet
      exact ⟨HB2, HR2⟩
  case rest =>
    obtain ⟨HB3, HR3⟩ := hcut
    obtain ⟨r0, r1, r2, r3, rf⟩ := HR3.out.cells
    clear rf HB2 HQ2 HR2 A1 BA hNQ hQ1
    go_wp2_with fail
    refine (T1.out _ _ _ (HZ.out.below HB3.out).hr).mono ?_
    rintro x w4 ⟨rfl, k4⟩
    have HB4 := Lib.hid (HB3.out.trans (k4.mono HB3.out.size))
    have HR4 := Lib.hid (HR3.out.of (k4.block _ HR3.out.lt))
    clear k4 HB3 HR3 r0 r1 r2 r3
    go_upto_if 81 with fail
    go_cut [20] (fun s20 wx => Hid (Below w.heap.size w wx))
    case first =>
      by_cases he : f = 0
      · have hee : (f == 0) = true := by rw [beq_iff_eq]; exact he
        obtain ⟨b1, b2, b3, b4, b5⟩ := BT.out he
        rw [HHS.out] at b2
        obtain ⟨N, hN⟩ : ∃ N, u.size = N + 1 := ⟨u.size - 1, by omega⟩
        have hN1 : u.size - 1 = N := by omega
        rw [hN1] at b5
        have hsm : (u ++ ⟨#[120]⟩ ++ more).size ≤ 4611686018427387904 := by
          rw [ByteArray.size_append, ByteArray.size_append]
          have : (⟨#[120]⟩ : ByteArray).size = 1 := rfl
          omega
        have hse : (u.extract 0 N).size ≤ 4611686018427387904 := by rw [ByteArray.size_extract]; omega
        have A2 := Lib.hid (fun W => Told_calls u (by omega) W)
        have A3 := Lib.hid (fun W => Told_calls (u ++ ⟨#[120]⟩ ++ more) hsm W)
        have A4 := Lib.hid (fun W => Told_calls (u.extract 0 N) hse W)
        obtain ⟨c1, c2, c3⟩ := b3
        rw [c1, c2, c3] at A2
        rw [b4] at A3
        rw [b5] at A4
        simp only at A2
        generalize (toldS (u ++ ⟨#[120]⟩ ++ more)).2 = d3 at A3
        generalize (toldS (u.extract 0 N)).2 = d4 at A4
        generalize hdv (u ++ ⟨#[120]⟩ ++ more) 82 = h3 at A3
        generalize hdv (u.extract 0 N) 82 = h4 at A4
        have hsz : (u.size : Int) = (N : Int) + 1 := by omega
        have hw1 : IntKind.i64.wrap (N : Int) = (N : Int) := by rw [IntKind.wrap_i64]; omega
        have hn0 : (0 : Int) ≤ (N : Int) := by omega
        have hn1 : (N : Int) ≤ (N : Int) + 1 := by omega
        have hcc : ¬ (u.size + 1 > 9223372036854775807) := by omega
        have hcc2 : ¬ (u.size + 1 + more.size > 9223372036854775807) := by omega
        clear b1 b2 b4 b5 c1 c2 c3 hsm hse hN1 he
        go_wp2_with fail
        refine (A2.out _).mono ?_
        rintro x w5 ⟨v, op', code', n', t', L', rfl, ho, k5, he⟩
        rw [if_pos rfl] at he
        simp only [Prod.mk.injEq] at he
        obtain ⟨rfl, rfl, rfl, rfl, rfl⟩ := he
        have HB5 := Lib.hid (HB4.out.trans (k5.mono HB4.out.size))
        have HR5 := Lib.hid (HR4.out.of (k5.block _ HR4.out.lt))
        obtain ⟨pv, cv, rfl, _⟩ := own_rd ho
        have HO5 := Lib.hid (HL.of_own ho)
        clear ho k5 HB4 HR4
        go_upto_region 14 with fail
        have HBx := Lib.hid ((Below.refl w5.heap.size w5).alloc (Nat.le_refl _) (.cells #[.int .i64 code', .int .i64 n', .string t', .slice pv L'.length cv] 33))
        have HU6 := Lib.hid (Rp.new w5 code' n' t' (.slice pv L'.length cv))
        have HR6 := Lib.hid (HR5.out.of (HBx.out.block _ HR5.out.lt))
        have HB6 := Lib.hid (HB5.out.trans (HBx.out.mono HB5.out.size))
        have HO6 := Lib.hid (HO5.out.below HBx.out)
        obtain ⟨U, hU⟩ : ∃ U, w5.heap.size = U := ⟨_, rfl⟩
        clear HBx
        generalize w5.alloc (.cells #[.int .i64 code', .int .i64 n', .string t', .slice pv L'.length cv] 33) = w6 at HU6 HR6 HB6 HO6 ⊢
        rw [hU] at HU6 ⊢
        clear hU HB5 HR5 HO5
        obtain ⟨r0, r1, r2, r3, rf⟩ := HR6.out.cells
        obtain ⟨u0, u1, u2, u3, uf⟩ := HU6.out.cells
        clear rf uf
        go_wp2_with fail
        refine (SM.out _ _ _ _ _ HO6.out (HZ.out.below HB6.out)).mono ?_
        rintro x w7 ⟨rfl, k7⟩
        have HB7 := Lib.hid (HB6.out.trans (k7.mono HB6.out.size))
        clear k7 HB6 HR6 HU6 HO6 r0 r1 r2 r3 u0 u1 u2 u3
        go_upto_region 17 with fail
        go_wp2_with fail
        refine (A3.out _).mono ?_
        rintro x w8 ⟨v, op3, code3, n3, t3, L3, rfl, ho, k8, he⟩
        rw [if_neg (by decide)] at he
        simp only [Prod.mk.injEq] at he
        obtain ⟨rfl, rfl, rfl, rfl, rfl⟩ := he
        obtain ⟨pw, cw, rfl, _⟩ := own_rd ho
        have HB8 := Lib.hid (HB7.out.trans (k8.mono HB7.out.size))
        clear ho k8 HB7
        simp only [List.length_nil]
        go_upto_region 18 with fail
        have HB9 := Lib.hid (HB8.out.alloc HB8.out.size (.cells #[.int .i64 0, .int .i64 0, .string ⟨#[]⟩, .slice pw 0 cw] 33))
        obtain ⟨P9, hP9⟩ : ∃ P9, w8.heap.size = P9 := ⟨_, rfl⟩
        generalize w8.alloc (.cells #[.int .i64 0, .int .i64 0, .string ⟨#[]⟩, .slice pw 0 cw] 33) = w9 at HB9 ⊢
        rw [hP9]
        clear hP9 HB8
        go_wp2_with fail
        refine (A4.out _).mono ?_
        rintro x wa ⟨v, op4, code4, n4, t4, L4, rfl, ho, ka, he⟩
        rw [if_neg (by decide)] at he
        simp only [Prod.mk.injEq] at he
        obtain ⟨rfl, rfl, rfl, rfl, rfl⟩ := he
        obtain ⟨px, cx, rfl, _⟩ := own_rd ho
        have HBa := Lib.hid (HB9.out.trans (ka.mono HB9.out.size))
        clear ho ka HB9
        simp only [List.length_nil]
        go_upto_region 19 with fail
        have HBb := Lib.hid (HBa.out.alloc HBa.out.size (.cells #[.int .i64 0, .int .i64 0, .string ⟨#[]⟩, .slice px 0 cx] 33))
        obtain ⟨P2, hP2⟩ : ∃ P2, wa.heap.size = P2 := ⟨_, rfl⟩
        generalize wa.alloc (.cells #[.int .i64 0, .int .i64 0, .string ⟨#[]⟩, .slice px 0 cx] 33) = wb at HBb ⊢
        rw [hP2]
        clear hP2 HBa
        go_wp2_with fail
        go_meet
        exact HBb
      · have hee : (f == 0) = false := by rw [beq_eq_false_iff_ne]; exact he
        go_wp2_with fail
        go_meet
        exact HB4
    case rest =>
      go_wp2_with fail
      refine (BG.out _).mono ?_
      rintro x wz ⟨rfl, kz⟩
      have HBz := Lib.hid (hcut.out.trans (kz.mono hcut.out.size))
      clear kz
      go_wp2
      go_ret
      exact ⟨rfl, HBz.out⟩
theorem WireBack_walk (sa0 : Array Value) (z0 : Rqv) (a1 : Int) (w1 : (Lit.int .i64 a1).wf = true) (sa2 : Array Value) (z2 : Rpv) (a3 : ByteArray) (s3 : a3.size ≤ 140737488351232) (w : World) (h0 : IsRq sa0.toList z0) (h2 : IsRp w sa2.toList z2) (hb : a3.size + bkRq z0 + bkRp z2 ≤ 1048576) :
    Calls Try.prog 8 #[.agg sa0, .int .i64 a1, .agg sa2, .string a3] w fun e w' => e = .returned (.bool true) ∧ Below w.heap.size w w' := by
  obtain ⟨qo, id, c, k, rr⟩ := z0
  obtain ⟨e0, _, g0, _, g1, g2⟩ := h0
  obtain rfl : sa0 = #[.int .i64 qo, .int .i64 id, .string c, .int .i64 k, .int .i64 rr] := Array.toList_inj.1 e0
  obtain ⟨code, n, t, z⟩ := z2
  obtain ⟨v, hv, hz, _, g3, _⟩ := h2
  simp only at hv hz g0 g1 g2 g3
  have hz' := hz
  obtain ⟨p, cap, rfl, hp, hl, _⟩ := hits_of_arg' hz
  obtain rfl : sa2 = #[.int .i64 code, .int .i64 n, .string t, .slice p z.length cap] := Array.toList_inj.1 hv
  obtain ⟨k1, k2, k3⟩ := hitsB_bulk z
  unfold bkRp bkRq at hb
  simp only at hb
  have wf_le : ∀ a : Int, (Lit.int .i64 a).wf = true → a ≤ 9223372036854775807 := fun a h => wf_top h
  exact wback_walk qo id c k rr a1 code n t p cap z a3 (wf_le _ g0) (wf_le _ g1) (wf_le _ g2) (wf_le _ g3) (fun x hx => by
    obtain ⟨h5, h6⟩ := hits_wf hz' x hx
    exact ⟨wf_le _ h5, wf_le _ h6⟩) (by omega) (by omega) (by omega) (by omega) (by omega) w hl
end Go.Proofs.Ytabhjkaheghbhaa

/-
  WALKS: WireMust, of operations (6, 8). (Printed by mustgen.py.)
-/
import Derived.Test.YtabhjkaheghbhaaMustP
import Derived.Deep.DeepCutAuto
import Derived.Deep.AppendLies
import Derived.Deep.RegionLaw
import Derived.Deep.RegionHeld3
namespace Go.Proofs.Ytabhjkaheghbhaa
open Go.RowKit ArgK
set_option linter.unusedVariables false

set_option maxRecDepth 100000 in
set_option maxHeartbeats 2000000 in
theorem must_6 (a0 a1 a2 a3 : Int) (a4 : ByteArray) (s4 : a4.size ≤ 140737488351232) (a5 : Int) (a6 : ByteArray) (s6 : a6.size ≤ 140737488351232) (a7 : Int) (p : Option Addr) (cap : Nat) (z : List Hv) (hz : z.length ≤ 4398046510976) (w : World) (hp : HL w p z) (u : Int) (hu : IntKind.u64.wrap a0 = u) (ht : u % 9 = 5) (hub : 0 ≤ u) :
    Calls Try.prog 10 #[.int .i64 a0, .int .i64 a1, .int .i64 a2, .int .i64 a3, .string a4, .int .i64 a5, .string a6, .int .i64 a7, .slice p z.length cap] w fun e w' => e = .returned (.bool true) ∧ Below w.heap.size w w' := by
  have hbu1 : ∀ (W : World) (z : Int), (Instr.build 24 #[(0, .int .i64 z)]).run Try.prog W = .ok (.agg #[.int .i64 z, .int .i64 0, .string ⟨#[]⟩, .int .i64 0, .int .i64 0]) W := fun W z => run_build W _ _ _ (by kernel_rfl)
  have hbu2 : ∀ W : World, (Instr.build 33 #[]).run Try.prog W = .ok (.agg #[.int .i64 0, .int .i64 0, .string ⟨#[]⟩, .slice none 0 0]) W := fun W => run_build W _ _ _ (by kernel_rfl)
  have BG := Lib.hid (fun W => begun_calls W)
  obtain ⟨SA, hA, hSA⟩ := must_ask (op := 6) (id := 0) (c := ⟨#[]⟩) (k := 0) (rr := 0) (by decide) rfl (by simp [askF]) (by decide) (by decide) (by decide) (by decide)
  have AK := Lib.hid (fun W => Ask_calls 6 0 ⟨#[]⟩ 0 0 (by decide) W)
  rw [hA] at AK
  obtain ⟨sa, hsa⟩ : ∃ sa : ByteArray, ⟨SA.toArray⟩ = sa := ⟨_, rfl⟩
  have hsz : 2 ≤ sa.size := by rw [← hsa]; exact hSA
  simp only [hsa] at AK
  have hge : decide ((2 : Int) ≤ (sa.size : Int)) = true := by simp; omega
  have HP := Lib.hid hp
  have HZ := Lib.hid hz
  clear hA hSA hsa hsz hp hz
  go_enter Try.func10, Try.ntmps10
  go_wp2_with fail
  refine (BG.out _).mono ?_
  rintro x w1 ⟨rfl, k1'⟩
  have HB1 := Lib.hid k1'
  clear k1'
  go_upto_region 13 with fail
  have HQ2 := Lib.hid ((rq_box w1 6 0 ⟨#[]⟩ 0 0).alloc (.cells #[.int .i64 0, .int .i64 0, .string ⟨#[]⟩, .slice none 0 0] 33))
  have HR2 := Lib.hid (Rp.new (w1.alloc (.cells #[.int .i64 6, .int .i64 0, .string ⟨#[]⟩, .int .i64 0, .int .i64 0] 24)) 0 0 ⟨#[]⟩ (.slice none 0 0))
  have hz1 : (w1.alloc (.cells #[.int .i64 6, .int .i64 0, .string ⟨#[]⟩, .int .i64 0, .int .i64 0] 24)).heap.size = w1.heap.size + 1 := World.size_alloc _ _
  rw [hz1] at HR2
  have HB2 := Lib.hid ((HB1.out.alloc HB1.out.size (.cells #[.int .i64 6, .int .i64 0, .string ⟨#[]⟩, .int .i64 0, .int .i64 0] 24)).alloc (by rw [hz1]; have := HB1.out.size; omega) (.cells #[.int .i64 0, .int .i64 0, .string ⟨#[]⟩, .slice none 0 0] 33))
  have hQB : w.heap.size ≤ w1.heap.size := HB1.out.size
  generalize (w1.alloc (.cells #[.int .i64 6, .int .i64 0, .string ⟨#[]⟩, .int .i64 0, .int .i64 0] 24)).alloc (.cells #[.int .i64 0, .int .i64 0, .string ⟨#[]⟩, .slice none 0 0] 33) = w2 at HQ2 HR2 HB2 ⊢
  obtain ⟨Q, hQ⟩ : ∃ Q, w1.heap.size = Q := ⟨_, rfl⟩
  rw [hQ] at HQ2 HR2 hQB ⊢
  clear hQ hz1 HB1 BG
  obtain ⟨q0, q1, q2, q3, q4, _⟩ := HQ2.out.cells
  go_wp2_with fail
  refine (AK.out _).mono ?_
  rintro x w3 ⟨rfl, k3⟩
  have HR3 := Lib.hid (HR2.out.of (k3.block _ HR2.out.lt))
  have HB3 := Lib.hid (HB2.out.trans (k3.mono HB2.out.size))
  clear k3 q0 q1 q2 q3 q4 HQ2 HR2 HB2 AK
  obtain ⟨p0, p1, p2, p3, pf⟩ := HR3.out.cells
  have f0 := pf 0
  have f1 := pf 1
  have f2 := pf 2
  have f3 := pf 3
  clear pf
  obtain ⟨eb, heb⟩ : ∃ eb : Bool, (decide (0 < a7) && decide (a7 < 1000)) = eb := ⟨_, rfl⟩
  go_upto_region 14 with fail
  go_cut [73] (fun s73 wx => s73 = .bool eb ∧ wx = w3)
  case first =>
    by_cases h7 : 0 < a7
    · have d7 : decide (0 < a7) = true := by simpa using h7
      rw [d7, Bool.true_and] at heb
      clear h7
      go_wp2_with fail
      go_meet
      exact ⟨rfl, rfl⟩
    · have d7 : decide (0 < a7) = false := by simpa using h7
      rw [d7, Bool.false_and] at heb
      subst heb
      clear h7
      go_wp2_with fail
      go_meet
      exact ⟨rfl, rfl⟩
  case rest =>
    obtain ⟨rfl, rfl⟩ := hcut
    obtain ⟨w3, rfl⟩ : ∃ w3 : World, w3 = wc := ⟨_, rfl⟩
    cases eb
    · clear heb
      obtain ⟨n1, hn1⟩ : ∃ n1, (if a5 < 0 then 0 else a5) = n1 := ⟨_, rfl⟩
      have nn1 : 0 ≤ n1 := by rw [← hn1]; exact up_le a5
      obtain ⟨ST, hT, hST⟩ := must_tell (op := 6) (code := 0) (n := n1) (t := ⟨#[]⟩) (z := []) (by decide) (by decide) (by show tellBad 6 0 n1 ⟨#[]⟩ 0 = false; simp [tellBad, zeroB]) (.inr (by show bodyE 6 n1 ⟨#[]⟩ [] = 0; have d : decide (n1 < 0) = false := (by simp; omega); simp [bodyE, d, rf]))
      have TK := Lib.hid (fun (W : World) => Tell_calls 6 0 n1 ⟨#[]⟩ none 0 [] W (HL.nil W none).hr (by decide))
      rw [hT] at TK
      obtain ⟨st, hst⟩ : ∃ st : ByteArray, ⟨ST.toArray⟩ = st := ⟨_, rfl⟩
      have hsz2 : 3 ≤ st.size := by rw [← hst]; exact hST
      simp only [hst, List.length_nil] at TK
      have hge2 : decide ((3 : Int) ≤ (st.size : Int)) = true := by simp; omega
      clear hT hST hst hsz2
      have HB4 := Lib.hid (HB3.out.setCell (p := ⟨Q + 1, 1, none⟩) (by show _ ≤ Q + 1; omega) (.int .i64 n1))
      go_wp2_with fail
      refine (TK.out _).mono ?_
      rintro x w9 ⟨rfl, k9⟩
      have HB9 := Lib.hid (HB4.out.trans (k9.mono HB4.out.size))
      clear k9
      go_wp2
      go_ret
      exact ⟨rfl, HB9.out⟩
    · have h78 : 0 < a7 ∧ a7 < 1000 := by simpa using heb
      clear heb
      obtain ⟨ST, hT, hST⟩ := must_code (op := 6) (by decide) h78.1 h78.2
      have TK := Lib.hid (fun (W : World) => Tell_calls 6 a7 0 ⟨#[]⟩ none 0 [] W (HL.nil W none).hr (by decide))
      rw [hT] at TK
      obtain ⟨st, hst⟩ : ∃ st : ByteArray, ⟨ST.toArray⟩ = st := ⟨_, rfl⟩
      have hsz2 : 3 ≤ st.size := by rw [← hst]; exact hST
      simp only [hst, List.length_nil] at TK
      have hge2 : decide ((3 : Int) ≤ (st.size : Int)) = true := by simp; omega
      clear h78 hT hST hst hsz2
      have HB4 := Lib.hid (HB3.out.setCell (p := ⟨Q + 1, 0, none⟩) (by show _ ≤ Q + 1; omega) (.int .i64 a7))
      go_wp2_with fail
      refine (TK.out _).mono ?_
      rintro x w9 ⟨rfl, k9⟩
      have HB9 := Lib.hid (HB4.out.trans (k9.mono HB4.out.size))
      clear k9
      go_wp2
      go_ret
      exact ⟨rfl, HB9.out⟩

set_option maxRecDepth 100000 in
set_option maxHeartbeats 2000000 in
theorem must_8 (a0 a1 a2 a3 : Int) (a4 : ByteArray) (s4 : a4.size ≤ 140737488351232) (a5 : Int) (a6 : ByteArray) (s6 : a6.size ≤ 140737488351232) (a7 : Int) (p : Option Addr) (cap : Nat) (z : List Hv) (hz : z.length ≤ 4398046510976) (w : World) (hp : HL w p z) (u : Int) (hu : IntKind.u64.wrap a0 = u) (ht : u % 9 = 7) (hub : 0 ≤ u) :
    Calls Try.prog 10 #[.int .i64 a0, .int .i64 a1, .int .i64 a2, .int .i64 a3, .string a4, .int .i64 a5, .string a6, .int .i64 a7, .slice p z.length cap] w fun e w' => e = .returned (.bool true) ∧ Below w.heap.size w w' := by
  have hbu1 : ∀ (W : World) (z : Int), (Instr.build 24 #[(0, .int .i64 z)]).run Try.prog W = .ok (.agg #[.int .i64 z, .int .i64 0, .string ⟨#[]⟩, .int .i64 0, .int .i64 0]) W := fun W z => run_build W _ _ _ (by kernel_rfl)
  have hbu2 : ∀ W : World, (Instr.build 33 #[]).run Try.prog W = .ok (.agg #[.int .i64 0, .int .i64 0, .string ⟨#[]⟩, .slice none 0 0]) W := fun W => run_build W _ _ _ (by kernel_rfl)
  have BG := Lib.hid (fun W => begun_calls W)
  obtain ⟨SA, hA, hSA⟩ := must_ask (op := 8) (id := 0) (c := ⟨#[]⟩) (k := 0) (rr := 0) (by decide) rfl (by simp [askF]) (by decide) (by decide) (by decide) (by decide)
  have AK := Lib.hid (fun W => Ask_calls 8 0 ⟨#[]⟩ 0 0 (by decide) W)
  rw [hA] at AK
  obtain ⟨sa, hsa⟩ : ∃ sa : ByteArray, ⟨SA.toArray⟩ = sa := ⟨_, rfl⟩
  have hsz : 2 ≤ sa.size := by rw [← hsa]; exact hSA
  simp only [hsa] at AK
  have hge : decide ((2 : Int) ≤ (sa.size : Int)) = true := by simp; omega
  have HP := Lib.hid hp
  have HZ := Lib.hid hz
  clear hA hSA hsa hsz hp hz
  go_enter Try.func10, Try.ntmps10
  go_wp2_with fail
  refine (BG.out _).mono ?_
  rintro x w1 ⟨rfl, k1'⟩
  have HB1 := Lib.hid k1'
  clear k1'
  go_upto_region 13 with fail
  have HQ2 := Lib.hid ((rq_box w1 8 0 ⟨#[]⟩ 0 0).alloc (.cells #[.int .i64 0, .int .i64 0, .string ⟨#[]⟩, .slice none 0 0] 33))
  have HR2 := Lib.hid (Rp.new (w1.alloc (.cells #[.int .i64 8, .int .i64 0, .string ⟨#[]⟩, .int .i64 0, .int .i64 0] 24)) 0 0 ⟨#[]⟩ (.slice none 0 0))
  have hz1 : (w1.alloc (.cells #[.int .i64 8, .int .i64 0, .string ⟨#[]⟩, .int .i64 0, .int .i64 0] 24)).heap.size = w1.heap.size + 1 := World.size_alloc _ _
  rw [hz1] at HR2
  have HB2 := Lib.hid ((HB1.out.alloc HB1.out.size (.cells #[.int .i64 8, .int .i64 0, .string ⟨#[]⟩, .int .i64 0, .int .i64 0] 24)).alloc (by rw [hz1]; have := HB1.out.size; omega) (.cells #[.int .i64 0, .int .i64 0, .string ⟨#[]⟩, .slice none 0 0] 33))
  have hQB : w.heap.size ≤ w1.heap.size := HB1.out.size
  generalize (w1.alloc (.cells #[.int .i64 8, .int .i64 0, .string ⟨#[]⟩, .int .i64 0, .int .i64 0] 24)).alloc (.cells #[.int .i64 0, .int .i64 0, .string ⟨#[]⟩, .slice none 0 0] 33) = w2 at HQ2 HR2 HB2 ⊢
  obtain ⟨Q, hQ⟩ : ∃ Q, w1.heap.size = Q := ⟨_, rfl⟩
  rw [hQ] at HQ2 HR2 hQB ⊢
  clear hQ hz1 HB1 BG
  obtain ⟨q0, q1, q2, q3, q4, _⟩ := HQ2.out.cells
  go_wp2_with fail
  refine (AK.out _).mono ?_
  rintro x w3 ⟨rfl, k3⟩
  have HR3 := Lib.hid (HR2.out.of (k3.block _ HR2.out.lt))
  have HB3 := Lib.hid (HB2.out.trans (k3.mono HB2.out.size))
  clear k3 q0 q1 q2 q3 q4 HQ2 HR2 HB2 AK
  obtain ⟨p0, p1, p2, p3, pf⟩ := HR3.out.cells
  have f0 := pf 0
  have f1 := pf 1
  have f2 := pf 2
  have f3 := pf 3
  clear pf
  obtain ⟨eb, heb⟩ : ∃ eb : Bool, (decide (0 < a7) && decide (a7 < 1000)) = eb := ⟨_, rfl⟩
  go_upto_region 14 with fail
  go_cut [73] (fun s73 wx => s73 = .bool eb ∧ wx = w3)
  case first =>
    by_cases h7 : 0 < a7
    · have d7 : decide (0 < a7) = true := by simpa using h7
      rw [d7, Bool.true_and] at heb
      clear h7
      go_wp2_with fail
      go_meet
      exact ⟨rfl, rfl⟩
    · have d7 : decide (0 < a7) = false := by simpa using h7
      rw [d7, Bool.false_and] at heb
      subst heb
      clear h7
      go_wp2_with fail
      go_meet
      exact ⟨rfl, rfl⟩
  case rest =>
    obtain ⟨rfl, rfl⟩ := hcut
    obtain ⟨w3, rfl⟩ : ∃ w3 : World, w3 = wc := ⟨_, rfl⟩
    cases eb
    · clear heb
      obtain ⟨n1, hn1⟩ : ∃ n1, (if a5 < 0 then 0 else a5) = n1 := ⟨_, rfl⟩
      have nn1 : 0 ≤ n1 := by rw [← hn1]; exact up_le a5
      obtain ⟨ST, hT, hST⟩ := must_tell (op := 8) (code := 0) (n := n1) (t := ⟨#[]⟩) (z := []) (by decide) (by decide) (by show tellBad 6 0 n1 ⟨#[]⟩ 0 = false; simp [tellBad, zeroB]) (.inr (by show bodyE 6 n1 ⟨#[]⟩ [] = 0; have d : decide (n1 < 0) = false := (by simp; omega); simp [bodyE, d, rf]))
      have TK := Lib.hid (fun (W : World) => Tell_calls 8 0 n1 ⟨#[]⟩ none 0 [] W (HL.nil W none).hr (by decide))
      rw [hT] at TK
      obtain ⟨st, hst⟩ : ∃ st : ByteArray, ⟨ST.toArray⟩ = st := ⟨_, rfl⟩
      have hsz2 : 3 ≤ st.size := by rw [← hst]; exact hST
      simp only [hst, List.length_nil] at TK
      have hge2 : decide ((3 : Int) ≤ (st.size : Int)) = true := by simp; omega
      clear hT hST hst hsz2
      have HB4 := Lib.hid (HB3.out.setCell (p := ⟨Q + 1, 1, none⟩) (by show _ ≤ Q + 1; omega) (.int .i64 n1))
      go_wp2_with fail
      refine (TK.out _).mono ?_
      rintro x w9 ⟨rfl, k9⟩
      have HB9 := Lib.hid (HB4.out.trans (k9.mono HB4.out.size))
      clear k9
      go_wp2
      go_ret
      exact ⟨rfl, HB9.out⟩
    · have h78 : 0 < a7 ∧ a7 < 1000 := by simpa using heb
      clear heb
      obtain ⟨ST, hT, hST⟩ := must_code (op := 8) (by decide) h78.1 h78.2
      have TK := Lib.hid (fun (W : World) => Tell_calls 8 a7 0 ⟨#[]⟩ none 0 [] W (HL.nil W none).hr (by decide))
      rw [hT] at TK
      obtain ⟨st, hst⟩ : ∃ st : ByteArray, ⟨ST.toArray⟩ = st := ⟨_, rfl⟩
      have hsz2 : 3 ≤ st.size := by rw [← hst]; exact hST
      simp only [hst, List.length_nil] at TK
      have hge2 : decide ((3 : Int) ≤ (st.size : Int)) = true := by simp; omega
      clear h78 hT hST hst hsz2
      have HB4 := Lib.hid (HB3.out.setCell (p := ⟨Q + 1, 0, none⟩) (by show _ ≤ Q + 1; omega) (.int .i64 a7))
      go_wp2_with fail
      refine (TK.out _).mono ?_
      rintro x w9 ⟨rfl, k9⟩
      have HB9 := Lib.hid (HB4.out.trans (k9.mono HB4.out.size))
      clear k9
      go_wp2
      go_ret
      exact ⟨rfl, HB9.out⟩

end Go.Proofs.Ytabhjkaheghbhaa

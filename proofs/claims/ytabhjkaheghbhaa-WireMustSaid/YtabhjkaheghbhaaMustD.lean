/-
  WALKS: WireMust, of operations (4,). (Printed by mustgen.py.)
-/
import Derived.Test.YtabhjkaheghbhaaMustP
import Derived.Deep.DeepCutAuto
import Derived.Deep.AppendLies
import Derived.Deep.RegionLaw
import Derived.Deep.RegionHeld3
namespace Go.Proofs.Ytabhjkaheghbhaa
open Go.RowKit ArgK
set_option linter.unusedVariables false

set_option maxRecDepth 100000 in
set_option maxHeartbeats 8000000 in
theorem must_4 (a0 a1 a2 a3 : Int) (a4 : ByteArray) (s4 : a4.size ≤ 140737488351232) (a5 : Int) (a6 : ByteArray) (s6 : a6.size ≤ 140737488351232) (a7 : Int) (p : Option Addr) (cap : Nat) (z : List Hv) (hz : z.length ≤ 4398046510976) (w : World) (hp : HL w p z) (u : Int) (hu : IntKind.u64.wrap a0 = u) (ht : u % 9 = 3) (hub : 0 ≤ u) :
    Calls Try.prog 10 #[.int .i64 a0, .int .i64 a1, .int .i64 a2, .int .i64 a3, .string a4, .int .i64 a5, .string a6, .int .i64 a7, .slice p z.length cap] w fun e w' => e = .returned (.bool true) ∧ Below w.heap.size w w' := by
  have hbu1 : ∀ (W : World) (z : Int), (Instr.build 24 #[(0, .int .i64 z)]).run Try.prog W = .ok (.agg #[.int .i64 z, .int .i64 0, .string ⟨#[]⟩, .int .i64 0, .int .i64 0]) W := fun W z => run_build W _ _ _ (by kernel_rfl)
  have hbu2 : ∀ W : World, (Instr.build 33 #[]).run Try.prog W = .ok (.agg #[.int .i64 0, .int .i64 0, .string ⟨#[]⟩, .slice none 0 0]) W := fun W => run_build W _ _ _ (by kernel_rfl)
  have BG := Lib.hid (fun W => begun_calls W)
  obtain ⟨mn, hmn⟩ : ∃ mn : Int, (if 65536 < (a4.size : Int) then 65536 else (a4.size : Int)) = mn := ⟨_, rfl⟩
  have hmn0 : 0 ≤ mn := by rw [← hmn]; split <;> omega
  have hmn1 : mn ≤ (a4.size : Int) := by rw [← hmn]; split <;> omega
  obtain ⟨cc, hcc⟩ : ∃ cc, a4.extract 0 mn.toNat = cc := ⟨_, rfl⟩
  have ncc : cc.size ≤ 65536 := by rw [← hcc, ← hmn]; exact cutS_le a4 65536
  obtain ⟨k1, hk1⟩ : ∃ k1, (if a2 < 0 then 0 else a2) = k1 := ⟨_, rfl⟩
  have nk1 : 0 ≤ k1 := by rw [← hk1]; exact up_le a2
  obtain ⟨SA, hA, hSA⟩ := must_ask (op := 4) (id := 0) (c := cc) (k := k1) (rr := 0) (by decide) rfl (by simp [askF]) (by decide) nk1 (by decide) ncc
  have AK := Lib.hid (fun W => Ask_calls 4 0 cc k1 0 (by omega) W)
  rw [hA] at AK
  obtain ⟨sa, hsa⟩ : ∃ sa : ByteArray, ⟨SA.toArray⟩ = sa := ⟨_, rfl⟩
  have hsz : 2 ≤ sa.size := by rw [← hsa]; exact hSA
  simp only [hsa] at AK
  have hge : decide ((2 : Int) ≤ (sa.size : Int)) = true := by simp; omega
  have HP := Lib.hid hp
  have HZ := Lib.hid hz
  clear hA hSA hsa hsz hp hz
  go_enter Try.func10, Try.ntmps10
  go_wp2_with fail
  refine (BG.out _).mono ?_
  rintro x w1 ⟨rfl, k1'⟩
  have HB1 := Lib.hid k1'
  clear k1'
  go_upto_region 13 with fail
  have HQ2 := Lib.hid ((rq_box w1 4 0 cc k1 0).alloc (.cells #[.int .i64 0, .int .i64 0, .string ⟨#[]⟩, .slice none 0 0] 33))
  have HR2 := Lib.hid (Rp.new (w1.alloc (.cells #[.int .i64 4, .int .i64 0, .string cc, .int .i64 k1, .int .i64 0] 24)) 0 0 ⟨#[]⟩ (.slice none 0 0))
  have hz1 : (w1.alloc (.cells #[.int .i64 4, .int .i64 0, .string cc, .int .i64 k1, .int .i64 0] 24)).heap.size = w1.heap.size + 1 := World.size_alloc _ _
  rw [hz1] at HR2
  have HB2 := Lib.hid ((HB1.out.alloc HB1.out.size (.cells #[.int .i64 4, .int .i64 0, .string cc, .int .i64 k1, .int .i64 0] 24)).alloc (by rw [hz1]; have := HB1.out.size; omega) (.cells #[.int .i64 0, .int .i64 0, .string ⟨#[]⟩, .slice none 0 0] 33))
  have hQB : w.heap.size ≤ w1.heap.size := HB1.out.size
  generalize (w1.alloc (.cells #[.int .i64 4, .int .i64 0, .string cc, .int .i64 k1, .int .i64 0] 24)).alloc (.cells #[.int .i64 0, .int .i64 0, .string ⟨#[]⟩, .slice none 0 0] 33) = w2 at HQ2 HR2 HB2 ⊢
  obtain ⟨Q, hQ⟩ : ∃ Q, w1.heap.size = Q := ⟨_, rfl⟩
  rw [hQ] at HQ2 HR2 hQB ⊢
  clear hQ hz1 HB1 BG
  obtain ⟨q0, q1, q2, q3, q4, _⟩ := HQ2.out.cells
  go_wp2_with fail
  refine (AK.out _).mono ?_
  rintro x w3 ⟨rfl, k3⟩
  have HR3 := Lib.hid (HR2.out.of (k3.block _ HR2.out.lt))
  have HB3 := Lib.hid (HB2.out.trans (k3.mono HB2.out.size))
  clear k3 q0 q1 q2 q3 q4 HQ2 HR2 HB2 AK
  obtain ⟨p0, p1, p2, p3, pf⟩ := HR3.out.cells
  have f0 := pf 0
  have f1 := pf 1
  have f2 := pf 2
  have f3 := pf 3
  clear pf
  obtain ⟨eb, heb⟩ : ∃ eb : Bool, (decide (0 < a7) && decide (a7 < 1000)) = eb := ⟨_, rfl⟩
  go_upto_region 14 with fail
  go_cut [73] (fun s73 wx => s73 = .bool eb ∧ wx = w3)
  case first =>
    by_cases h7 : 0 < a7
    · have d7 : decide (0 < a7) = true := by simpa using h7
      rw [d7, Bool.true_and] at heb
      clear h7
      go_wp2_with fail
      go_meet
      exact ⟨rfl, rfl⟩
    · have d7 : decide (0 < a7) = false := by simpa using h7
      rw [d7, Bool.false_and] at heb
      subst heb
      clear h7
      go_wp2_with fail
      go_meet
      exact ⟨rfl, rfl⟩
  case rest =>
    obtain ⟨rfl, rfl⟩ := hcut
    obtain ⟨w3, rfl⟩ : ∃ w3 : World, w3 = wc := ⟨_, rfl⟩
    cases eb
    · clear heb
      obtain ⟨i0, hi, hy0, hy1, hy2⟩ := info_parts hitinfo
      have hbu3 : ∀ (W : World) (d i : Int) (s : ByteArray), (Instr.build 35 #[(0, .int .i64 d), (1, .int .i64 i), (2, .string s)]).run Try.prog W = .ok (.agg #[.int .i64 d, .int .i64 i, .string s]) W := fun W d i s => run_build W _ _ _ (by kernel_rfl)
      have TK := Lib.hid (fun (k : Nat) (p : Option Addr) (cap : Nat) W hz hl => Tell_calls 4 0 0 ⟨#[]⟩ p cap (mustL z k) W hz hl)
      obtain ⟨n, hn⟩ : ∃ n, z.length = n := ⟨_, rfl⟩
      have HN := Lib.hid hn
      have hnz : n ≤ 4398046510976 := by rw [← hn]; exact HZ.out
      rw [hn]
      obtain ⟨g0, hg0⟩ : ∃ g0, w3.heap.size = g0 := ⟨_, rfl⟩
      have hQg : Q + 1 < g0 := by rw [← hg0]; exact HR3.out.lt
      have hg0s : g0 ≤ w3.heap.size := by rw [hg0]; exact Nat.le_refl _
      have hwg : w.heap.size ≤ g0 := by rw [← hg0]; exact HB3.out.size
      clear hg0 hn
      go_wp2
      go_loopw [25] (fun i ws => ∃ (k : Nat) (v : Value), k ≤ n ∧ k ≤ 1000 ∧ i = .int .i64 k ∧ Hid (ws.ownsRow g0 35 3 v k (encH (mustL z k))) ∧ Hid (Rp ws (Q + 1) 0 0 ⟨#[]⟩ v) ∧ Hid (Below w.heap.size w ws) ∧ Hid (g0 ≤ ws.heap.size)) (fun i _ => 1000 - (intOf i).toNat)
      case atStart => exact ⟨0, _, Nat.zero_le _, Nat.zero_le _, rfl, Lib.hid ⟨rfl, .inl ⟨rfl, rfl⟩⟩, HR3, HB3, Lib.hid hg0s⟩
      case round =>
        obtain ⟨k, v, hk, hk1, rfl, HO, HRr, HBr, HGs⟩ := hrel
        clear p0 p1 p2 p3 f0 f1 f2 f3
        obtain ⟨p0, p1, p2, p3, pf⟩ := HRr.out.cells
        have f3 := pf 3
        clear pf
        by_cases hlt : k < n ∧ k < 1000
        · have hd1 : decide ((k : Int) < (n : Int)) = true := by simp; omega
          have hd1n : decide (k < n) = true := by simp; omega
          have hd2 : decide ((k : Int) < 1000) = true := by simp; omega
          have hd2n : decide (k < 1000) = true := by simp; omega
          have hki : (k : Int) < (n : Int) := by omega
          have hk0 : (0 : Int) ≤ (k : Int) := by omega
          obtain ⟨x, hx⟩ : ∃ x, z[k]? = some x := ⟨_, List.getElem?_eq_getElem (by rw [HN.out]; omega)⟩
          obtain ⟨a, ha, fw⟩ := HP.out k x hx
          subst ha
          have hab : (a.add (k * 3)).block < w.heap.size := fw.lt
          have f := fw.below HBr.out hab
          clear fw
          obtain ⟨u0, u1, u2⟩ := f
          obtain ⟨ms, hms⟩ : ∃ ms : Int, (if 200 < (x.c.size : Int) then 200 else (x.c.size : Int)) = ms := ⟨_, rfl⟩
          have hms0 : 0 ≤ ms := by rw [← hms]; split <;> omega
          have hms1 : ms ≤ (x.c.size : Int) := by rw [← hms]; split <;> omega
          obtain ⟨sc, hsc⟩ : ∃ sc, x.c.extract 0 ms.toNat = sc := ⟨_, rfl⟩
          obtain ⟨d3, hd3⟩ : ∃ d3 : Nat, k / 3 = d3 := ⟨_, rfl⟩
          have hq : (k : Int).tdiv 3 = (d3 : Int) := by rw [← hd3]; rw [Int.tdiv_eq_ediv_of_nonneg (by omega)]; omega
          have hq2 : (k : Int) / 3 = (d3 : Int) := by rw [← hd3]; omega
          have hq3 : IntKind.i64.wrap (d3 : Int) = (d3 : Int) := by rw [IntKind.wrap_i64]; omega
          have HS : Hid (mustL z (k + 1) = mustL z k ++ [⟨(d3 : Int), (k : Int), sc⟩]) := Lib.hid (by rw [mustL_succ z k x hx, ← hsc, ← hd3, ← hms]; rfl)
          obtain ⟨pv, cv, rfl, _⟩ := own_rd HO.out
          have hkn : k + 1 ≤ n := by omega
          have hk2 : k + 1 ≤ 1000 := by omega
          clear hx hd3 hlt
          have chk1 : (k + 1) * 32 ≤ 140737488355328 := by omega
          have chk2 : k + 1 ≤ maxLen := by unfold maxLen; omega
          have chk3 : ∀ j u, (Hv.cells ⟨(d3 : Int), (k : Int), sc⟩)[j]? = some u → (wr.alloc (.cells #[.int .i64 (d3 : Int), .int .i64 (k : Int), .string sc] 35)).cell? ((⟨wr.heap.size, 0, none⟩ : Addr).add j) = some u := World.news_of_block (heap_alloc_last wr _)
          have chk4 : ∀ u ∈ Hv.cells ⟨(d3 : Int), (k : Int), sc⟩, u.oneCell' = true := by simp [Hv.cells, Value.oneCell']
          have chk5 : g0 ≤ (wr.alloc (.cells #[.int .i64 (d3 : Int), .int .i64 (k : Int), .string sc] 35)).heap.size := by rw [World.size_alloc]; have := HGs.out; omega
          have RA := Lib.hid (HRr.out.alloc (.cells #[.int .i64 (d3 : Int), .int .i64 (k : Int), .string sc] 35))
          have BA := Lib.hid (HBr.out.alloc HBr.out.size (.cells #[.int .i64 (d3 : Int), .int .i64 (k : Int), .string sc] 35))
          have hvQ : (Value.slice pv k cv).ownBlock ≠ some (Q + 1) := fun e => by have := (HO.out.lt _ e).1; omega
          have hneQ : (a.add (k * 3)).block ≠ Q + 1 := by omega
          have habr : (a.add (k * 3)).block < wr.heap.size := Nat.lt_of_lt_of_le hab HBr.out.size
          have s0d : wr.drew.cell? ⟨(a.add (k * 3)).block, (a.add (k * 3)).off + 2, none⟩ = some (.string x.c) := u2
          have sA : ∀ o, (wr.alloc o).cell? ⟨(a.add (k * 3)).block, (a.add (k * 3)).off + 2, none⟩ = some (.string x.c) := fun o => (World.cell?_alloc_lt _ _ ⟨(a.add (k * 3)).block, (a.add (k * 3)).off + 2, none⟩ habr).trans u2
          have sAd : ∀ o, (wr.alloc o).drew.cell? ⟨(a.add (k * 3)).block, (a.add (k * 3)).off + 2, none⟩ = some (.string x.c) := fun o => (World.cell?_alloc_lt _ _ ⟨(a.add (k * 3)).block, (a.add (k * 3)).off + 2, none⟩ habr).trans u2
          have p3d : wr.drew.cell? ⟨Q + 1, 3, none⟩ = some (.slice pv k cv) := p3
          have p3a : ∀ o, (wr.alloc o).cell? ⟨Q + 1, 3, none⟩ = some (.slice pv k cv) := fun o => (World.cell?_alloc_lt _ _ ⟨Q + 1, 3, none⟩ HRr.out.lt).trans p3
          have p3b : ∀ o, (wr.alloc o).drew.cell? ⟨Q + 1, 3, none⟩ = some (.slice pv k cv) := fun o => (World.cell?_alloc_lt _ _ ⟨Q + 1, 3, none⟩ HRr.out.lt).trans p3
          have S6 := Lib.hid (fun (w6 : World) (hgrow : (wr.alloc (.cells #[.int .i64 (d3 : Int), .int .i64 (k : Int), .string sc] 35)).grownBy w6 (Value.slice pv k cv).ownBlock) => (hgrow.cell_far ⟨(a.add (k * 3)).block, (a.add (k * 3)).off + 2, none⟩ (by rw [World.size_alloc]; exact Nat.lt_succ_of_lt habr) (fun e => by have := (HO.out.lt _ e.symm).1; simp only at this; omega)).trans (sA _))
          go_wp2
          go_region_law ((refine step_append_lies _ (by rfl) (.tmp 119) (.tmp 137) 31 (by rfl) g0 35 i0 _ 3 32 Try.underlying31 hi hy0 hy1 hy2 rfl (by decide) _ k _ (by rfl) (HO.out.alloc _) ⟨wr.heap.size, 0, none⟩ 1 1 (Hv.cells ⟨(d3 : Int), (k : Int), sc⟩) (by rfl) rfl chk3 chk4 (by decide) chk2 chk1 chk5 (wr.heap.size + 1) (by simp) ?_; intro g6 c6 w6 hown' hgrow hat hlt6; have hR6 := Rp.of RA.out (hgrow.block (Q + 1) RA.out.lt (fun e => hvQ e.symm)); obtain ⟨x0, x1, x2, x3, xf⟩ := hR6.cells; have xf3 := xf 3; have s6 := S6.out w6 ⟨hgrow.os, hgrow.tape, hgrow.output, hgrow.size, hgrow.block⟩; have s7 := (fun v => (show (w6.setCell ⟨Q + 1, 3, none⟩ v).cell? ⟨(a.add (k * 3)).block, (a.add (k * 3)).off + 2, none⟩ = some (.string x.c) from (World.cell?_setCell_far w6 ⟨Q + 1, 3, none⟩ ⟨(a.add (k * 3)).block, (a.add (k * 3)).off + 2, none⟩ v (fun e => hneQ e.symm)).trans s6))))
          all_goals
            have hB6 : Below w.heap.size w w6 := by
              first
              | exact BA.out.grown hgrow (Nat.le_trans hwg chk5) (fun b hb => Nat.le_trans hwg (HO.out.lt b hb).1)
              | exact BA.out.drew.grown hgrow (Nat.le_trans hwg chk5) (fun b hb => Nat.le_trans hwg (HO.out.lt b hb).1)
            have hs6 : g0 ≤ w6.heap.size := Nat.le_trans chk5 hgrow.size
            have hvQ' : (Value.slice (some ⟨g6, 0, none⟩) (k + 1) c6).ownBlock ≠ some (Q + 1) := fun e => by have := (hown'.lt _ e).1; omega
            have N1 : Hid ((w6.setCell ⟨Q + 1, 3, none⟩ (.slice (some ⟨g6, 0, none⟩) (k + 1) c6)).ownsRow g0 35 3 (.slice (some ⟨g6, 0, none⟩) (k + 1) c6) (k + 1) (encH (mustL z (k + 1)))) := Lib.hid (by rw [HS.out, encH_snoc]; exact own_set3 hown' hvQ' _)
            have N2 := Lib.hid (hR6.set.2.2 (.slice (some ⟨g6, 0, none⟩) (k + 1) c6))
            have N3 := Lib.hid (hB6.setCell (p := ⟨Q + 1, 3, none⟩) (by show _ ≤ Q + 1; omega) (.slice (some ⟨g6, 0, none⟩) (k + 1) c6))
            have N4 : Hid (g0 ≤ (w6.setCell ⟨Q + 1, 3, none⟩ (.slice (some ⟨g6, 0, none⟩) (k + 1) c6)).heap.size) := Lib.hid (by simpa using hs6)
            clear hown' hgrow hR6 hB6 xf xf3 x0 x1 x2 x3 chk1 chk2 chk3 chk4 chk5 p0 p1 p2 p3 f3 u0 u1 u2 hat hlt6 s0d sA sAd p3d p3a p3b s6 s7
            go_wp2
            go_roundw
            case rel => exact ⟨k + 1, _, hkn, hk2, by go_num, N1, N2, N3, N4⟩
            case measure => simp [intOf]; omega
        · have hm3 := must_hits (op := 4) (by decide) z k hk1
          obtain ⟨ST, hT, hST⟩ := hm3
          have hlb := mustL_bytes z k
          have hln := mustL_length z k
          obtain ⟨pv, cv, rfl, _⟩ := own_rd HO.out
          have TK2 := TK.out k pv cv wr (HL.of_own HO.out).hr (by show (⟨#[]⟩ : ByteArray).size + _ + 128 ≤ _; rw [show (⟨#[]⟩ : ByteArray).size = 0 from rfl]; omega)
          rw [hT, hln] at TK2
          obtain ⟨st, hst⟩ : ∃ st : ByteArray, ⟨ST.toArray⟩ = st := ⟨_, rfl⟩
          have hsz2 : 3 ≤ st.size := by rw [← hst]; exact hST
          simp only [hst] at TK2
          have hge2 : decide ((3 : Int) ≤ (st.size : Int)) = true := by simp; omega
          have HTK := Lib.hid TK2
          clear hT hST hst hsz2 TK2 hlb hln
          by_cases h1 : k < n
          · have hd1 : decide ((k : Int) < (n : Int)) = true := by simp; omega
            have hd1n : decide (k < n) = true := by simp; omega
            have hd2 : decide ((k : Int) < 1000) = false := by simp; omega
            have hd2n : decide (k < 1000) = false := by simp; omega
            clear hlt h1
            go_wp2_with fail
            refine HTK.out.mono ?_
            rintro x w9 ⟨rfl, k9⟩
            have HB9 := Lib.hid (HBr.out.trans (k9.mono HBr.out.size))
            clear k9
            go_wp2
            go_ret
            exact ⟨rfl, HB9.out⟩
          · have hd1 : decide ((k : Int) < (n : Int)) = false := by simp; omega
            have hd1n : decide (k < n) = false := by simp; omega
            clear hlt h1
            go_wp2_with fail
            refine HTK.out.mono ?_
            rintro x w9 ⟨rfl, k9⟩
            have HB9 := Lib.hid (HBr.out.trans (k9.mono HBr.out.size))
            clear k9
            go_wp2
            go_ret
            exact ⟨rfl, HB9.out⟩

    · have h78 : 0 < a7 ∧ a7 < 1000 := by simpa using heb
      clear heb
      obtain ⟨ST, hT, hST⟩ := must_code (op := 4) (by decide) h78.1 h78.2
      have TK := Lib.hid (fun (W : World) => Tell_calls 4 a7 0 ⟨#[]⟩ none 0 [] W (HL.nil W none).hr (by decide))
      rw [hT] at TK
      obtain ⟨st, hst⟩ : ∃ st : ByteArray, ⟨ST.toArray⟩ = st := ⟨_, rfl⟩
      have hsz2 : 3 ≤ st.size := by rw [← hst]; exact hST
      simp only [hst, List.length_nil] at TK
      have hge2 : decide ((3 : Int) ≤ (st.size : Int)) = true := by simp; omega
      clear h78 hT hST hst hsz2
      have HB4 := Lib.hid (HB3.out.setCell (p := ⟨Q + 1, 0, none⟩) (by show _ ≤ Q + 1; omega) (.int .i64 a7))
      go_wp2_with fail
      refine (TK.out _).mono ?_
      rintro x w9 ⟨rfl, k9⟩
      have HB9 := Lib.hid (HB4.out.trans (k9.mono HB4.out.size))
      clear k9
      go_wp2
      go_ret
      exact ⟨rfl, HB9.out⟩

end Go.Proofs.Ytabhjkaheghbhaa

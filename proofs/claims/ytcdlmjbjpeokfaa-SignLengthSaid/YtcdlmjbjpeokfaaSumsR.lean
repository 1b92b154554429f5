/-
  WALK: the document's Sums.
-/
import Derived.Test.YtcdlmjbjpeokfaaSumsRP
import Derived.Deep.DeepCutAuto
import Derived.Deep.RegionHeld3
namespace Go.Proofs.Ytcdlmjbjpeokfaa
open Go.RowKit Go.Shelf
set_option linter.unusedVariables false

/-- A part's box. -/
def Pb (w : World) (q : Nat) (x : Int × Int) : Prop := w.heap[q]? = some (.cells #[.int .i64 x.1, .int .i64 x.2] 33 (0, 0))
theorem Pb.cells {w : World} {q : Nat} {x : Int × Int} (h : Pb w q x) : w.cell? ⟨q, 0, none⟩ = some (.int .i64 x.1) ∧ w.cell? ⟨q, 1, none⟩ = some (.int .i64 x.2) ∧ w.frozen? ⟨q, 0, none⟩ = false ∧ w.frozen? ⟨q, 1, none⟩ = false := by
  unfold Pb at h
  simp [World.cell?, World.frozen?, h]
theorem Pb.lt {w : World} {q : Nat} {x : Int × Int} (h : Pb w q x) : q < w.heap.size := cell_ltS h.cells.1
theorem Pb.of {w w' : World} {q : Nat} {x : Int × Int} (h : Pb w q x) (e : w'.heap[q]? = w.heap[q]?) : Pb w' q x := e.trans h
theorem Pb.alloc {w : World} {q : Nat} {x : Int × Int} (h : Pb w q x) (o : Obj) : Pb (w.alloc o) q x := h.of (Below.heap_alloc _ _ _ h.lt)
theorem Pb.new (w : World) (x : Int × Int) : Pb (w.alloc (.cells #[.int .i64 x.1, .int .i64 x.2] 33)) w.heap.size x := heap_lastS w _
theorem Pb.set {w : World} {q : Nat} {x : Int × Int} (h : Pb w q x) : (∀ a, Pb (w.setCell ⟨q, 0, none⟩ (.int .i64 a)) q (a, x.2)) ∧ (∀ a, Pb (w.setCell ⟨q, 1, none⟩ (.int .i64 a)) q (x.1, a)) := by
  unfold Pb at *
  refine ⟨fun a => ?_, fun a => ?_⟩ <;> simp [World.setCell, Array.getElem?_modify, h]

set_option maxRecDepth 100000 in
set_option maxHeartbeats 1000000 in
theorem rsums_ok (Bs h : Nat) (sd : Int) (p : Option Addr) (cap : Nat) (zs : List (Int × Int)) (hh : h ≤ 512) (hh1 : 1 ≤ h) (hm : zs.length ≤ 1024) (hfit : zs.all fitsP = true) (w : World) (hz : PL w p zs) (hs : Sg w 64 Bs ((2 * h : Nat) : Int) zs.length sd) :
    Calls Try.prog 10 #[.pointer (some ⟨Bs, 0, none⟩), .slice p zs.length cap] w fun e w' => ∃ v, e = .returned (.tuple #[v, .int .i64 0]) ∧ w'.ownsRow w.heap.size 33 2 v h (encP (sgL sd h zs)) ∧ Below w.heap.size w w' := by
  obtain ⟨i0, hi, hy0, hy1, hy2⟩ := info_parts partinfo
  have LB := Lib.hid (sgL_bound (sd := sd) (h := h) hm hfit)
  have LL := Lib.hid (sgL_length sd h zs)
  have LG := Lib.hid (sgL_get sd h zs)
  generalize hLe : sgL sd h zs = L at LB LL LG ⊢
  clear hLe
  have HFm : Hid (∀ q, q < zs.length → (-1048576 ≤ (zs.getD q (0, 0)).1 ∧ (zs.getD q (0, 0)).1 ≤ 1048576) ∧ (-1048576 ≤ (zs.getD q (0, 0)).2 ∧ (zs.getD q (0, 0)).2 ≤ 1048576)) := Lib.hid (fun q hq => by
    have e : zs.getD q (0, 0) = zs[q] := by simp [List.getD, hq]
    have := List.all_eq_true.1 hfit _ (List.getElem_mem hq)
    unfold fitsP at this
    rw [Bool.and_eq_true] at this
    rw [e]
    exact ⟨fitP_iff.1 this.1, fitP_iff.1 this.2⟩)
  obtain ⟨m, hmm⟩ : ∃ m, zs.length = m := ⟨_, rfl⟩
  rw [hmm] at hm hs LG HFm ⊢
  obtain ⟨s0, s1, s2⟩ := hs.cells
  have hbs := hs.lt
  have hq1 : ((2 * h : Nat) : Int) / 2 = (h : Int) := by omega
  have hq2 : ((2 * h : Nat) : Int).tdiv 2 = (h : Int) := by rw [Int.tdiv_eq_ediv_of_nonneg (by omega)]; omega
  have hwh : wrap64 (h : Int) = (h : Int) := by unfold wrap64; omega
  obtain ⟨WD, hWD⟩ : ∃ WD : Int, ((2 * h : Nat) : Int) = WD := ⟨_, rfl⟩
  rw [hWD] at s0 hq1 hq2
  have HM := Lib.hid hmm
  have HZ := Lib.hid hz
  have HF := Lib.hid hfit
  clear hz hs hmm hfit hWD
  go_enter Try.func10, Try.ntmps10
  go_wp2
  go_loopw [6] (fun i ws => ∃ (k : Nat), k ≤ m ∧ i = .int .i64 k ∧ w = ws) (fun i _ => m - (intOf i).toNat)
  case atStart => exact ⟨0, Nat.zero_le _, rfl, rfl⟩
  case round =>
    obtain ⟨k, hk, rfl, rfl⟩ := hrel
    by_cases hlt : k < m
    · have hki : (k : Int) < (m : Int) := by omega
      have hk0 : (0 : Int) ≤ (k : Int) := by omega
      obtain ⟨x, hx⟩ : ∃ x, zs[k]? = some x := ⟨_, List.getElem?_eq_getElem (by rw [HM.out]; exact hlt)⟩
      obtain ⟨a, rfl, u0, u1⟩ := HZ.out k x hx
      have hfx := List.all_eq_true.1 HF.out x (List.mem_of_getElem? hx)
      unfold fitsP at hfx
      rw [Bool.and_eq_true] at hfx
      obtain ⟨f1, f2⟩ := hfx
      have IP1 := Lib.hid (fun W => rfits_calls x.1 W)
      have IP2 := Lib.hid (fun W => rfits_calls x.2 W)
      rw [f1] at IP1
      rw [f2] at IP2
      clear hx f1 f2
      go_wp2_with fail
      refine (IP1.out _).mono ?_
      rintro _ _ ⟨rfl, rfl⟩
      go_wp2_with fail
      refine (IP2.out _).mono ?_
      rintro _ _ ⟨rfl, rfl⟩
      go_wp2
      go_roundw
      case rel => exact ⟨k + 1, hlt, by go_num, by trivial⟩
      case measure => simp [intOf]; omega
    · obtain rfl : k = m := by omega
      have hge : ¬ ((k : Int) < (k : Int)) := by omega
      clear hk
      go_wp2
      go_loopw [9, 10] (fun lv i ws => ∃ (j : Nat) (v : Value), j ≤ h ∧ i = .int .i64 j ∧ v = lv ∧ Hid (ws.ownsRow w.heap.size 33 2 v j (encP (L.take j))) ∧ Hid (Below w.heap.size w ws)) (fun _ i _ => h - (intOf i).toNat)
      case atStart => exact ⟨0, _, Nat.zero_le _, rfl, rfl, Lib.hid (World.ownsRow_nil _ _ _ _), Lib.hid (Below.refl _ _)⟩
      case round =>
        obtain ⟨j, lv, hj, rfl, rfl, HV, HBr⟩ := hrel
        have c0 := (HBr.out.cell (p := ⟨Bs, 0, none⟩) hbs).trans s0
        by_cases hjh : j < h
        · have hji : (j : Int) < (h : Int) := by omega
          have hjl := LG.out j hjh
          have HJL := Lib.hid hjl
          clear hjl
          go_upto_region 15 with fail
          obtain ⟨Q, hQ⟩ : ∃ Q, wr.heap.size = Q := ⟨_, rfl⟩
          have HPb := Lib.hid (Pb.new wr (0, 0))
          have HVa := Lib.hid (HV.out.alloc (.cells #[.int .i64 0, .int .i64 0] 33))
          have HBa := Lib.hid (HBr.out.alloc HBr.out.size (.cells #[.int .i64 0, .int .i64 0] 33))
          simp only at HPb
          generalize wr.alloc (.cells #[.int .i64 0, .int .i64 0] 33) = wq at HPb HVa HBa ⊢
          rw [hQ] at HPb ⊢
          have hwQ : w.heap.size ≤ Q := by rw [← hQ]; exact HBr.out.size
          have hvQ : ∀ g, lv.ownBlock = some g → g ≠ Q := fun g hg e => by have := (HV.out.lt g hg).2; omega
          clear hQ HV HBr c0
          have hj0 : j ≤ 1048576 := by omega
          go_wp2
          go_loopw [12] (fun i ws => ∃ (t : Nat), t ≤ k ∧ i = .int .i64 t ∧ Hid (Pb ws Q (sumS sd j (fun q => zs.getD q (0, 0)) (frS k t))) ∧ Hid (ws.ownsRow w.heap.size 33 2 lv j (encP (L.take j))) ∧ Hid (Below w.heap.size w ws)) (fun i _ => k - (intOf i).toNat)
          case atStart => exact ⟨0, Nat.zero_le _, rfl, HPb, HVa, HBa⟩
          case round =>
            obtain ⟨t, ht, rfl, HP, HV, HB⟩ := hrel
            clear HPb HVa HBa
            have hQs := HP.out.lt
            by_cases hlt2 : t < k
            · have hti : (t : Int) < (k : Int) := by omega
              have ht0 : (0 : Int) ≤ (t : Int) := by omega
              obtain ⟨x, hx⟩ : ∃ x, zs[t]? = some x := ⟨_, List.getElem?_eq_getElem (by rw [HM.out]; exact hlt2)⟩
              have hzx : zs.getD t (0, 0) = x := by simp [List.getD, hx]
              have hxb := HFm.out t hlt2
              rw [hzx] at hxb
              obtain ⟨a, rfl, u0, u1⟩ := (HZ.out.below HB.out) t x hx
              have c2 := (HB.out.cell (p := ⟨Bs, 2, none⟩) hbs).trans s2
              have hul := cell_ltS u0
              have hul1 := cell_ltS u1
              have hul2 := cell_ltS c2
              have hur := unitN_range sd j t
              have UN := Lib.hid (fun W => Unit_calls sd j t hj0 (by omega) W)
              have TM := Lib.hid (fun W => times_calls x (unitN sd j t) hur hxb.1 hxb.2 W)
              have hsb := sumS_bound sd j (fun q => zs.getD q (0, 0)) HFm.out (frS k t)
              rw [frS_length _ _ ht] at hsb
              have HSN : Hid (sumS sd j (fun q => zs.getD q (0, 0)) (frS k (t + 1)) = ((sumS sd j (fun q => zs.getD q (0, 0)) (frS k t)).1 + (tm x (ui (unitN sd j t))).1, (sumS sd j (fun q => zs.getD q (0, 0)) (frS k t)).2 + (tm x (ui (unitN sd j t))).2)) := Lib.hid (by
                rw [frS_succ k t hlt2, sumS_snoc]; simp only [hzx])
              obtain ⟨tb1, tb2⟩ := tm_bound hxb.1 hxb.2 (unitN sd j t)
              generalize unitN sd j t = U at UN TM HSN tb1 tb2 hur
              generalize tm x (ui U) = y at TM HSN tb1 tb2
              generalize sumS sd j (fun q => zs.getD q (0, 0)) (frS k t) = c at HP HSN hsb
              obtain ⟨y1, y2⟩ := y
              obtain ⟨d1, d2⟩ := c
              simp only at hsb tb1 tb2 HSN TM
              have wp1 : IntKind.i64.wrap (d1 + y1) = d1 + y1 := by rw [IntKind.wrap_i64]; omega
              have wp2 : IntKind.i64.wrap (d2 + y2) = d2 + y2 := by rw [IntKind.wrap_i64]; omega
              clear hx hzx hxb hsb tb1 tb2 hur
              have hS : ∀ W' : World, Below wr.heap.size wr W' → (W'.cell? (a.add (t * 2)) = some (.int .i64 x.1) ∧ W'.cell? ⟨(a.add (t * 2)).block, (a.add (t * 2)).off + 1, none⟩ = some (.int .i64 x.2) ∧ W'.cell? ⟨Bs, 2, none⟩ = some (.int .u64 sd)) := fun W' hb => ⟨(hb.cell hul).trans u0, (hb.cell hul1).trans u1, (hb.cell hul2).trans c2⟩
              have B0d : Below wr.heap.size wr wr.drew := (Below.refl _ wr).drew
              have BA : ∀ o, Below wr.heap.size wr (wr.alloc o) := fun o => (Below.refl _ wr).alloc (Nat.le_refl _) o
              have BAd : ∀ o, Below wr.heap.size wr (wr.alloc o).drew := fun o => ((Below.refl _ wr).alloc (Nat.le_refl _) o).drew
              have P1 := Lib.hid (fun (w3 : World) (k3 : Below wr.drew.heap.size wr.drew w3) => (B0d.trans k3 : Below wr.heap.size wr w3))
              have P2 := Lib.hid (fun (w3 : World) (k3 : Below (wr.alloc (.cells #[.int .i64 0, .int .i64 0] 33)).drew.heap.size (wr.alloc (.cells #[.int .i64 0, .int .i64 0] 33)).drew w3) => ((BAd _).trans (k3.mono (by simp)) : Below wr.heap.size wr w3))
              have P3 := Lib.hid (fun (w3 : World) (k3 : Below (wr.alloc (.cells #[.int .i64 0, .int .i64 0] 33)).drew.heap.size (wr.alloc (.cells #[.int .i64 0, .int .i64 0] 33)).drew w3) => ((Pb.new wr (0, 0)).of (w' := w3) (k3.block wr.heap.size (by simp)) : Pb w3 wr.heap.size (0, 0)))
              go_upto_region 18 with fail
              go_cut [13] from 55 to 84 (fun s13 wx => ∃ q2 : Nat, s13 = .pointer (some ⟨q2, 0, none⟩) ∧ wr.heap.size ≤ q2 ∧ Pb wx q2 (y1, y2) ∧ Below wr.heap.size wr wx)
              case first =>
                go_region_held3 (fun W => W.cell? (a.add (t * 2)) = some (.int .i64 x.1) ∧ W.cell? ⟨(a.add (t * 2)).block, (a.add (t * 2)).off + 1, none⟩ = some (.int .i64 x.2) ∧ W.cell? ⟨Bs, 2, none⟩ = some (.int .u64 sd))
                  (first | with_reducible exact hS _ B0d | with_reducible exact hS _ (BA _) | with_reducible exact hS _ (BAd _) | with_reducible exact hS _ B3 | with_reducible exact hS _ (B3a _) | with_reducible exact hS _ (B3s _ _) | fail)
                  (first | (go_at_call 29; refine (UN.out _).mono ?_; rintro _ _ ⟨rfl, rfl⟩) | (go_at_call 28; refine (TM.out wr.drew).mono ?_; rintro _ w3 ⟨rfl, k3⟩; have B3 := P1.out w3 k3; have B3a := (fun o => B3.alloc B3.size o)) | (go_at_call 28; refine (TM.out (wr.alloc (.cells #[.int .i64 0, .int .i64 0] 33)).drew).mono ?_; rintro _ w3 ⟨rfl, k3⟩; have B3 := P2.out w3 k3; have T3 := P3.out w3 k3; obtain ⟨g0, g1, gf0, gf1⟩ := T3.cells; have B3s := (fun u v => (B3.setCell (p := ⟨wr.heap.size, 0, none⟩) (Nat.le_refl _) u).setCell (p := ⟨wr.heap.size, 1, none⟩) (Nat.le_refl _) v)))
                all_goals (first | (have hT := T3; (go_wp2_with fail; go_meet; exact ⟨wr.heap.size, rfl, Nat.le_refl _, (T3.set.1 y1).set.2 y2, B3s _ _⟩)) | (go_wp2_with fail; go_meet; exact ⟨w3.heap.size, rfl, B3.size, Pb.new w3 (y1, y2), B3.alloc B3.size _⟩))
              case rest =>
                obtain ⟨q2, rfl, hq2, hP2, hb2⟩ := hcut
                clear hS B0d BA BAd P1 P2 P3 UN TM u0 u1 c2 hul hul1 hul2
                have HP2 := Lib.hid (HP.out.of (hb2.block Q hQs))
                have HV2 := Lib.hid (own_belowAll HV.out hb2)
                have HB2 := Lib.hid (HB.out.trans (hb2.mono HB.out.size))
                have HY2 := Lib.hid hP2
                have hneQ : q2 ≠ Q := by omega
                clear hb2 hP2 HP HV HB
                obtain ⟨e0, e1, ef0, ef1⟩ := HP2.out.cells
                obtain ⟨y0, y1', yf0, yf1⟩ := HY2.out.cells
                simp only at e0 e1 y0 y1'
                go_upto_region 20 with fail
                have hvQ2 : ∀ g, lv.ownBlock = some g → g ≠ Q := hvQ
                have HP3 := Lib.hid (HP2.out.set.1 (d1 + y1))
                have HY3 := Lib.hid (HY2.out.of (Below.heap_setCell wc ⟨Q, 0, none⟩ (.int .i64 (d1 + y1)) q2 hneQ))
                have HV3 := Lib.hid (own_setCell (p := ⟨Q, 0, none⟩) HV2.out (fun e => hvQ2 Q e rfl) (.int .i64 (d1 + y1)))
                have HB3 := Lib.hid (HB2.out.setCell (p := ⟨Q, 0, none⟩) hwQ (.int .i64 (d1 + y1)))
                generalize wc.setCell ⟨Q, 0, none⟩ (.int .i64 (d1 + y1)) = wd at HP3 HY3 HV3 HB3 ⊢
                clear e0 e1 ef0 ef1 y0 y1' yf0 yf1 HP2 HV2 HB2 HY2
                obtain ⟨e0, e1, ef0, ef1⟩ := HP3.out.cells
                obtain ⟨y0, y1', yf0, yf1⟩ := HY3.out.cells
                simp only at e0 e1 y0 y1'
                have HP4 := Lib.hid (HP3.out.set.2 (d2 + y2))
                have HV4 := Lib.hid (own_setCell (p := ⟨Q, 1, none⟩) HV3.out (fun e => hvQ2 Q e rfl) (.int .i64 (d2 + y2)))
                have HB4 := Lib.hid (HB3.out.setCell (p := ⟨Q, 1, none⟩) hwQ (.int .i64 (d2 + y2)))
                clear HP3 HY3 HV3 HB3
                go_wp2
                go_roundw
                case rel => exact ⟨t + 1, hlt2, by go_num, Lib.hid (by rw [HSN.out]; exact HP4.out), HV4, HB4⟩
                case measure => simp [intOf]; omega
            · obtain rfl : t = k := by omega
              have hge2 : ¬ ((t : Int) < (t : Int)) := by omega
              have hgd : decide ((t : Int) < (t : Int)) = false := by simp
              obtain ⟨x, hx⟩ : ∃ x, sumS sd j (fun q => zs.getD q (0, 0)) (frS t t) = x := ⟨_, rfl⟩
              have HJX : Hid (L[j]? = some x) := Lib.hid (by
                have h9 := HJL.out
                rw [← hx]
                simpa [HM.out] using h9)
              rw [hx] at HP
              clear hx
              obtain ⟨e0, e1, ef0, ef1⟩ := HP.out.cells
              have hwr : w.heap.size ≤ wr.heap.size := HB.out.size
              have HTK : Hid (encP (L.take (j + 1)) = encP (L.take j) ++ cellsP x) := Lib.hid (by rw [List.take_add_one, HJX.out]; exact encP_snoc _ _)
              have chk1 : (j + 1) * 16 ≤ 140737488355328 := by omega
              have chk2 : j + 1 ≤ maxLen := by unfold maxLen; omega
              have chk3 : ∀ i u, (cellsP x)[i]? = some u → (wr.alloc (.cells #[.int .i64 x.1, .int .i64 x.2] 33)).cell? ((⟨wr.heap.size, 0, none⟩ : Addr).add i) = some u := World.news_of_block (heap_lastS wr _)
              have chk4 : ∀ u ∈ cellsP x, u.oneCell' = true := by simp [cellsP, Value.oneCell']
              have chk5 : w.heap.size ≤ (wr.alloc (.cells #[.int .i64 x.1, .int .i64 x.2] 33)).heap.size := by rw [World.size_alloc]; omega
              go_wp2_with (at_builtin; refine wpList_append_own _ rfl _ _ 24 rfl w.heap.size 33 i0 _ 2 16 Try.underlying24 hi hy0 hy1 hy2 rfl (by decide) lv j _ rfl (HV.out.alloc _) ⟨wr.heap.size, 0, none⟩ 1 1 (cellsP x) rfl rfl chk3 chk4 chk2 chk1 chk5 ?_)
              intro v' w3 hown' hgrow _
              have N1 : Hid (w3.ownsRow w.heap.size 33 2 v' (j + 1) (encP (L.take (j + 1)))) := Lib.hid (by rw [HTK.out]; exact hown')
              have N2 := Lib.hid ((HB.out.alloc hwr (.cells #[.int .i64 x.1, .int .i64 x.2] 33)).grown hgrow chk5 (fun b hb => (HV.out.lt b hb).1))
              clear hown' hgrow chk1 chk2 chk3 chk4 chk5 e0 e1 ef0 ef1
              go_wp2
              go_roundw
              case rel => exact ⟨j + 1, _, hjh, by go_num, rfl, N1, N2⟩
              case measure => simp [intOf]; omega
        · obtain rfl : j = h := by omega
          have hge2 : ¬ ((j : Int) < (j : Int)) := by omega
          have hto : L.take j = L := List.take_of_length_le (by rw [LL.out]; exact Nat.le_refl _)
          have hv := HV.out
          rw [hto] at hv
          have HV2 := Lib.hid hv
          clear hv hto HV
          go_wp2
          go_ret2
          exact ⟨_, rfl, HV2.out, HBr.out⟩
theorem rSums_calls (Bs h : Nat) (dm sd : Int) (p : Option Addr) (cap : Nat) (zs : List (Int × Int)) (hh : h ≤ 512) (hh1 : 1 ≤ h) (hd : 1 ≤ dm ∧ dm ≤ 1024) (w : World) (hz : PL w p zs) (hs : Sg w 64 Bs ((2 * h : Nat) : Int) dm sd) :
    Calls Try.prog 10 #[.pointer (some ⟨Bs, 0, none⟩), .slice p zs.length cap] w fun e w' => ∃ v, e = .returned (.tuple #[v, .int .i64 (sgE dm zs)]) ∧ w'.ownsRow w.heap.size 33 2 v (sgR dm sd h zs).length (encP (sgR dm sd h zs)) ∧ Below w.heap.size w w' := by
  unfold sgR
  rcases sgE_cases dm zs with ⟨h1, h2⟩ | ⟨h1, h2, h3⟩ | ⟨h1, h2, h3⟩
  · rw [h2, if_neg (by decide)]
    exact (rsums_dims Bs _ dm sd p zs.length cap h1 w hs).mono fun _ _ ⟨e, hb⟩ => ⟨_, e, World.ownsRow_nil _ _ _ _, hb⟩
  · rw [h3, if_pos rfl, sgL_length]
    subst h1
    exact rsums_ok Bs h sd p cap zs hh hh1 (by omega) h2 w hz hs
  · rw [h3, if_neg (by decide)]
    subst h1
    exact (rsums_part Bs _ sd p cap zs (by omega) h2 w hz hs).mono fun _ _ ⟨e, hb⟩ => ⟨_, e, World.ownsRow_nil _ _ _ _, hb⟩
end Go.Proofs.Ytcdlmjbjpeokfaa

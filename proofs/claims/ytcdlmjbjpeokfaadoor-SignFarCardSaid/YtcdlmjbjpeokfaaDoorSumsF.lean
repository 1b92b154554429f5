/-
  WALK: the sums of a vector, as complex numbers.
-/
import Derived.Test.YtcdlmjbjpeokfaaDoorSumsL
namespace Go.Proofs.YtcdlmjbjpeokfaaDoor
open Go.RowKit Go.Shelf
set_option linter.unusedVariables false

theorem c128info : (Tryd.prog.info? 52).map (fun i => (i.zero, i.size, i.bytes)) = some (some (.complex .f64 0 0), 1, 16) := by kernel_rfl

theorem run_store_complex (P : Program) (w : World) (a : Addr) (m : Mode) (k : FloatKind) (x y : Nat) : (store a (.complex k x y) m).run P w = stored P w a (.complex k x y) m := run_store P w a _ m rfl

attribute [local go_sem] Oper.semAt_some run_store_complex

set_option maxRecDepth 100000 in
set_option maxHeartbeats 2000000 in
theorem sums_in (n : Nat) (hn : 6 ≤ n) (Bs h : Nat) (sd : Int) (p : Option Addr) (cap : Nat) (zs : List (Int × Int)) (hh : h ≤ 512) (hm : zs.length ≤ 1024) (hm0 : 1 ≤ zs.length) (hfit : ∀ x ∈ zs, fitP x.1 = true ∧ fitP x.2 = true) (w : World) (hz : PL w p zs) (hs : Sg w 48 Bs ((2 * h : Nat) : Int) zs.length sd) :
    CallsIn Fence.wide n Tryd.prog 17 #[.pointer (some ⟨Bs, 0, none⟩), .slice p zs.length cap] w fun e w' => ∃ v, e = .returned (.tuple #[v, .int .i64 0]) ∧ Below w.heap.size w w' ∧ ∃ xs, w'.ownsRow w.heap.size 52 1 v h xs ∧ (∀ i, i < h → ∃ a b, xs[i]? = some (.complex .f64 a b) ∧ IsW a (sumS sd i (fun q => zs.getD q (0, 0)) (frS zs.length zs.length)).1 ∧ IsW b (sumS sd i (fun q => zs.getD q (0, 0)) (frS zs.length zs.length)).2) := by
  have h1 : 1 ≤ n := by omega
  obtain ⟨i0, hi, hy0, hy1, hy2⟩ := info_parts c128info
  have IP := Lib.hid (fun a W => isPart_calls a W)
  obtain ⟨m, hmm⟩ : ∃ m, zs.length = m := ⟨_, rfl⟩
  rw [hmm] at hm hm0 hs ⊢
  obtain ⟨s0, s1, s2⟩ := hs.cells
  have hmk := fun W : World => run_make (P := Tryd.prog) W 49 52 i0 _ Tryd.underlying49 hi hy0 .i64 .i64 0 m (by omega) (by omega) (by rw [hy2]; omega) (by omega)
  have hmk2 := fun W : World => run_make (P := Tryd.prog) W 49 52 i0 _ Tryd.underlying49 hi hy0 .i64 .i64 h h (by omega) (by omega) (by rw [hy2]; omega) (by omega)
  have HM := Lib.hid hmm
  have HZ := Lib.hid hz
  have HS := Lib.hid hs
  have HF := Lib.hid hfit
  clear hz hs hmm hfit
  refine callsIn_of_wp_marks Tryd.func17 rfl trivial ?_ rfl
  simp only [Tryd.ntmps17, List.size_toArray, List.length_cons, List.length_nil, Nat.reduceAdd, Nat.reduceSub, Array.replicate_succ, Array.replicate_zero, List.push_toArray, List.append_toArray, List.nil_append, List.cons_append]
  gi_wp2
  obtain ⟨W0, hW0⟩ : ∃ W0, ((w.alloc (.cells (madeCells #[.complex .f64 0 0] m) 52)).alloc (.cells #[.slice (some ⟨w.heap.size, 0, none⟩) 0 m] 49)) = W0 := ⟨_, rfl⟩
  have hbox : Boxed W0 (w.heap.size + 1) 49 (.slice (some ⟨w.heap.size, 0, none⟩) 0 m) := by
    rw [← hW0]
    have := Boxed.new (w.alloc (.cells (madeCells #[.complex .f64 0 0] m) 52)) 49 (.slice (some ⟨w.heap.size, 0, none⟩) 0 m)
    simp only [World.size_alloc] at this
    exact this
  have hrow : W0.ownsRow w.heap.size 52 1 (.slice (some ⟨w.heap.size, 0, none⟩) 0 m) 0 [] := by
    rw [← hW0]
    refine World.ownsRow.alloc (h := ?_) _
    exact World.ownsRow_made (base := w.heap.size) (e := 52) (size := 1) w (madeCells #[.complex .f64 0 0] m) m (by simp) (by unfold maxLen; omega) (by simp [madeCells])
  have hB0 : Below w.heap.size w W0 := by
    rw [← hW0]; exact ((Below.refl _ w).alloc (Nat.le_refl _) _).alloc (by simp) _
  rw [hW0]
  clear hW0 hmk
  have HB0 := Lib.hid hB0
  have HX0 := Lib.hid hbox
  have HW0 := Lib.hid hrow
  clear hB0 hbox hrow
  gi_loopw [25] (fun i ws => ∃ (k : Nat) (v : Value), k ≤ m ∧ i = .int .i64 k ∧ Hid (Boxed ws (w.heap.size + 1) 49 v) ∧ Hid (ws.ownsRow w.heap.size 52 1 v k ((zs.take k).map pW)) ∧ Hid (Below w.heap.size w ws)) (fun i _ => m - (intOf i).toNat)
  case atStart => exact ⟨0, _, Nat.zero_le _, rfl, HX0, HW0, HB0⟩
  case round =>
    obtain ⟨k, v, hk, rfl, HX, HV, HB⟩ := hrel
    clear HX0 HW0 HB0
    by_cases hlt : k < m
    · have hki : (k : Int) < (m : Int) := by omega
      have hk0 : (0 : Int) ≤ (k : Int) := by omega
      obtain ⟨x, hx⟩ : ∃ x, zs[k]? = some x := ⟨_, List.getElem?_eq_getElem (by rw [HM.out]; exact hlt)⟩
      obtain ⟨ft1, ft2⟩ := HF.out x (List.mem_of_getElem? hx)
      obtain ⟨pv, cv, rfl, _⟩ := own_rd HV.out
      obtain ⟨a, rfl, u0, u1⟩ := (HZ.out.below HB.out) k x hx
      have HTK : Hid ((zs.take (k + 1)).map pW = (zs.take k).map pW ++ [pW x]) := Lib.hid (by rw [List.take_add_one, hx]; simp)
      have IP1 := Lib.hid (fun W => isPart_calls x.1 W)
      have IP2 := Lib.hid (fun W => isPart_calls x.2 W)
      rw [ft1] at IP1
      rw [ft2] at IP2
      clear hx ft1 ft2
      have HX1 := Lib.hid (HX.out.alloc (.cells #[.int .i64 x.1, .int .i64 x.2] 36))
      have HV1 := Lib.hid (HV.out.alloc (.cells #[.int .i64 x.1, .int .i64 x.2] 36))
      have HB1 := Lib.hid (HB.out.alloc HB.out.size (.cells #[.int .i64 x.1, .int .i64 x.2] 36))
      have c6 := HX1.out.cell
      have chk1 : w.heap.size ≤ (wr.alloc (.cells #[.int .i64 x.1, .int .i64 x.2] 36)).heap.size := HB1.out.size
      have chk3 := cell_one_new (wr.alloc (.cells #[.int .i64 x.1, .int .i64 x.2] 36)) (pW x) 52
      rw [World.size_alloc] at chk3
      gi_wp2_with (first
        | (refine ⟨trivial, ?_⟩; gi_at_call 19; refine (callsIn_wide.2 (IP1.out _)).mono ?_; rintro e w' ⟨rfl, rfl⟩)
        | (refine ⟨trivial, ?_⟩; gi_at_call 19; refine (callsIn_wide.2 (IP2.out _)).mono ?_; rintro e w' ⟨rfl, rfl⟩)
        | (gi_at_builtin; refine wpListIn_append_own _ rfl _ _ 49 rfl w.heap.size 52 i0 (.complex .f64 0 0) 1 16 Tryd.underlying49 hi hy0 hy1 hy2 rfl (by decide) (.slice pv k cv) k _ rfl (HV1.out.alloc _) ⟨wr.heap.size + 1, 0, none⟩ 1 1 [pW x] rfl rfl chk3 (by simp [Value.oneCell', pW]) (by unfold maxLen; omega) (by omega) (by rw [World.size_alloc]; omega) ?_; intro v' y2 hown' hgrow _; obtain ⟨g', cap', rfl⟩ := ownsRow_succ hown'; obtain ⟨hv1, hv2, hr2, hk2, hb2⟩ := HX1.out.appended (by decide) HV1.out chk1 (by omega) hown' hgrow; have hc1 := hv1.cell; have hf1 := hv1.frozen))
      go_roundw
      case rel => exact ⟨k + 1, _, hlt, by go_num, Lib.hid hv2, Lib.hid (by rw [HTK.out]; exact hr2), Lib.hid (HB1.out.trans hb2)⟩
      case measure => simp [intOf]; omega
    · obtain rfl : k = m := by omega
      have hge : ¬ ((k : Int) < (k : Int)) := by omega
      have HSr := Lib.hid (HS.out.of (HB.out.block _ HS.out.lt))
      obtain ⟨s0, s1, s2⟩ := HSr.out.cells
      have hq1 : ((2 * h : Nat) : Int) / 2 = (h : Int) := by omega
      have hq2 : ((2 * h : Nat) : Int).tdiv 2 = (h : Int) := by rw [Int.tdiv_eq_ediv_of_nonneg (by omega)]; omega
      obtain ⟨WD, hWD⟩ : ∃ WD : Int, ((2 * h : Nat) : Int) = WD := ⟨_, rfl⟩
      rw [hWD] at s0 hq1 hq2
      clear hWD
      have hwh : IntKind.i64.wrap (h : Int) = (h : Int) := by rw [IntKind.wrap_i64]; omega
      gi_wp2
      -- SECOND
      have HTK : zs.take k = zs := List.take_of_length_le (by rw [HM.out]; exact Nat.le_refl _)
      have hV := HV.out
      rw [HTK] at hV
      have HV' := Lib.hid hV
      clear hV HTK
      have hvG0 := fun e => (HV'.out.lt wr.heap.size e).2
      have hvG1 : v.ownBlock ≠ some wr.heap.size := fun e => by have := hvG0 e; omega
      clear hvG0
      obtain ⟨G9, hG9⟩ : ∃ G9, wr.heap.size = G9 := ⟨_, rfl⟩
      obtain ⟨B9, hB9⟩ : ∃ B9, G9 + 1 = B9 := ⟨_, rfl⟩
      have hvG : v.ownBlock ≠ some G9 := by rw [← hG9]; exact hvG1
      clear hvG1
      have hwG : w.heap.size + 1 < G9 := by have := HX.out.lt; omega
      obtain ⟨W1, hW1⟩ : ∃ W1, ((wr.alloc (.cells (madeCells #[.complex .f64 0 0] h) 52)).alloc (.cells #[.slice (some ⟨wr.heap.size, 0, none⟩) h h] 49)) = W1 := ⟨_, rfl⟩
      have HI1 : Hid (SInv w.heap.size (w.heap.size + 1) B9 G9 49 52 v k h (zs.map pW) w (fun i => sumS sd i (fun q => zs.getD q (0, 0)) (frS k k)) 0 (0, 0) W1) := Lib.hid (by
        have hX1 := (HX.out.alloc (.cells (madeCells #[.complex .f64 0 0] h) 52)).alloc (.cells #[.slice (some ⟨wr.heap.size, 0, none⟩) h h] 49)
        have hR1 := (HV'.out.alloc (.cells (madeCells #[.complex .f64 0 0] h) 52)).alloc (.cells #[.slice (some ⟨wr.heap.size, 0, none⟩) h h] 49)
        have hb := Boxed.new (wr.alloc (.cells (madeCells #[.complex .f64 0 0] h) 52)) 49 (.slice (some ⟨wr.heap.size, 0, none⟩) h h)
        simp only [World.size_alloc] at hb
        have hr : (wr.alloc (.cells (madeCells #[.complex .f64 0 0] h) 52)).ownsRow wr.heap.size 52 1 (.slice (some ⟨wr.heap.size, 0, none⟩) h h) h (List.replicate h (.complex .f64 0 0)) := by
          have := World.ownsRow_lit (base := wr.heap.size) (e := 52) (size := 1) wr (madeCells #[.complex .f64 0 0] h) h (Nat.le_refl _) (by unfold maxLen; omega) (by simp [madeCells])
          rw [toList_madeCells_one] at this
          exact this
        have hB := (HB.out.alloc HB.out.size (.cells (madeCells #[.complex .f64 0 0] h) 52)).alloc (by rw [World.size_alloc]; have := HB.out.size; omega) (.cells #[.slice (some ⟨wr.heap.size, 0, none⟩) h h] 49)
        rw [hW1] at hX1 hR1 hb hB
        rw [← hB9, ← hG9]
        refine ⟨⟨hX1, hR1⟩, ⟨hb, _, ?_, LX.start _ h⟩, hB⟩
        rw [← hW1]
        exact hr.alloc _)
      have hsz1 : B9 < W1.heap.size := by rw [← hW1]; simp; omega
      have hGB : G9 < B9 := by omega
      rw [hW1, hG9, hB9]
      clear hW1 hG9 hB9 HX HV HV' HB s0 s1 s2 HSr
      have HFm : Hid (∀ q, q < k → (-1048576 ≤ (zs.getD q (0, 0)).1 ∧ (zs.getD q (0, 0)).1 ≤ 1048576) ∧ (-1048576 ≤ (zs.getD q (0, 0)).2 ∧ (zs.getD q (0, 0)).2 ≤ 1048576)) := Lib.hid (fun q hq => by
        have hql : q < zs.length := by rw [HM.out]; exact hq
        have e : zs.getD q (0, 0) = zs[q] := by simp [List.getD, hql]
        obtain ⟨f1, f2⟩ := HF.out _ (List.getElem_mem hql)
        rw [e]
        exact ⟨fitP_iff.1 f1, fitP_iff.1 f2⟩)
      refine wpIn_loop (fun a W => ∃ (j : Nat) (Ds : List Nat) (u10 u59 u60 u61 u62 u63 u78 : Value), a = { tmps := #[.pointer (some ⟨Bs, 0, none⟩), .slice p k cap, undef, undef, u4, u5, .pointer (some ⟨w.heap.size + 1, 0, none⟩), undef, u8, .pointer (some ⟨B9, 0, none⟩), u10, undef, undef, .slice p k cap, .int .i64 k, .pointer (some ⟨Bs, 0, none⟩), .pointer (some ⟨Bs, 0, none⟩), .pointer (some ⟨Bs, 1, none⟩), .int .i64 k, .bool false, .slice p k cap, .int .i64 k, .slice (some ⟨w.heap.size, 0, none⟩) 0 k, .slice p k cap, .int .i64 k, .int .i64 k, .bool false, u27, u28, u29, u30, u31, u32, u33, u34, u35, u36, u37, u38, u39, u40, u41, u42, u43, u44, u45, u46, u47, u48, u49, .pointer (some ⟨Bs, 0, none⟩), .pointer (some ⟨Bs, 0, none⟩), .pointer (some ⟨Bs, 0, none⟩), .int .i64 WD, .int .i64 h, .slice (some ⟨G9, 0, none⟩) h h, .slice (some ⟨G9, 0, none⟩) h h, .int .i64 h, .int .i64 j, u59, u60, u61, u62, u63, undef, undef, undef, undef, undef, undef, undef, undef, undef, undef, undef, undef, undef, undef, u78, undef], defers := marksD Ds } ∧ j ≤ h ∧ Hid (SInv w.heap.size (w.heap.size + 1) B9 G9 49 52 v k h (zs.map pW) w (fun i => sumS sd i (fun q => zs.getD q (0, 0)) (frS k k)) j (0, 0) W) ∧ Hid (CollD w.heap.size W.heap.size Ds W) ∧ B9 < W.heap.size)
        (fun a _ => h - (intOf (a.tmps.getD 58 undef)).toNat) ⟨0, [], _, _, _, _, _, _, _, rfl, Nat.zero_le _, HI1, Lib.hid ⟨List.nodup_nil, fun D hD => by cases hD⟩, hsz1⟩ ?_
      rintro a Y ⟨j, Ds, u10, u59, u60, u61, u62, u63, u78, rfl, hj, HI, HD, hYB⟩
      clear HI1 hsz1
      obtain ⟨⟨hbx6, hrP⟩, ⟨hbx9, xs, hrL, hLX⟩, hbl⟩ := HI.out
      have HSr := Lib.hid (HS.out.of (hbl.block _ HS.out.lt))
      have c9 := hbx9.cell
      have hwY : w.heap.size + 1 < Y.heap.size := hbx6.lt
      by_cases hlt : j < h
      · have hki : (j : Int) < (h : Int) := by omega
        have hbY := Boxed.new Y 3 (.int .i64 (j : Int))
        have DIR := Lib.hid (direction_calls Bs (j : Int) (Y.alloc (.cells #[.int .i64 (j : Int)] 3)))
        have cY := hbY.cell
        have hY1 : (Y.alloc (.cells #[.int .i64 (j : Int)] 3)).heap.size = Y.heap.size + 1 := by simp
        rw [hY1] at DIR
        gi_wp2_with (refine ⟨trivial, ?_⟩; gi_at_call 20; refine (callsIn_wide.2 DIR.out).mono ?_; rintro e w' ⟨rfl, rfl⟩)
        obtain ⟨Z0, hZ0⟩ : ∃ Z0, ((Y.alloc (.cells #[.int .i64 (j : Int)] 3)).alloc (.cells #[.pointer (some ⟨Bs, 0, none⟩)] 28)).alloc (.cells #[.int .i64 (j : Int)] 3) = Z0 := ⟨_, rfl⟩
        have hzs : Z0.heap.size = Y.heap.size + 1 + 1 + 1 := by rw [← hZ0]; simp
        have hbZ : Below Y.heap.size Y Z0 := by rw [← hZ0]; exact (((Below.refl _ Y).alloc (Nat.le_refl _) _).alloc (by simp) _).alloc (by simp; omega) _
        have hc2 : Z0.cell? ⟨Y.heap.size + 1, 0, none⟩ = some (.pointer (some ⟨Bs, 0, none⟩)) := by
          have := (Boxed.new (Y.alloc (.cells #[.int .i64 (j : Int)] 3)) 28 (.pointer (some ⟨Bs, 0, none⟩))).alloc (.cells #[.int .i64 (j : Int)] 3)
          rw [hZ0, hY1] at this
          exact this.cell
        have hc3 : Z0.cell? ⟨Y.heap.size + 1 + 1, 0, none⟩ = some (.int .i64 (j : Int)) := by
          have := Boxed.new ((Y.alloc (.cells #[.int .i64 (j : Int)] 3)).alloc (.cells #[.pointer (some ⟨Bs, 0, none⟩)] 28)) 3 (.int .i64 (j : Int))
          rw [hZ0, World.size_alloc, hY1] at this
          exact this.cell
        have hb10 : Boxed Z0 Y.heap.size 3 (.int .i64 (j : Int)) := by
          rw [← hZ0]; exact (hbY.alloc _).alloc _
        have hI0 := HI.out.below (Nat.le_refl _) hbZ
        have hC0 := (HD.out.below hbZ).mono hbZ.size
        have hS0 := HSr.out.of (hbZ.block _ HSr.out.lt)
        rw [hZ0]
        clear hZ0 HI HD HSr hbZ hbx6 hrP hbx9 hrL hLX hbl c9 hbY cY DIR hY1
        refine wpIn_rangeFunc_ownF rfl h1 (gf := 21) (lb := #[.pointer (some ⟨Y.heap.size + 1, 0, none⟩), .pointer (some ⟨Y.heap.size + 1 + 1, 0, none⟩)]) rfl trivial (enters_of Tryd.func21 (by kernel_rfl) rfl)
          (dirF_stops (n - 1) (by omega) _ _ Bs _ sd j k (by omega) (by omega) Z0 hc2 hc3 hS0) KeepS.trans (KeepS.put (by have := hS0.lt; simp; omega)) (Below.refl _ _) (fun _ => rfl)
          (fun pre W => (SInv w.heap.size (w.heap.size + 1) B9 G9 49 52 v k h (zs.map pW) w (fun i => sumS sd i (fun q => zs.getD q (0, 0)) (frS k k)) j (sumS sd j (fun q => zs.getD q (0, 0)) pre) W ∧ CollD w.heap.size Z0.heap.size Ds W) ∧ Boxed W Y.heap.size 3 (.int .i64 (j : Int)))
          (fun _ _ _ => False)
          (OwnFrom.and (OwnFrom.and (SInv.own (fun pre => sumS sd j (fun q => zs.getD q (0, 0)) pre) (Nat.le_refl _) (by omega)) (CollD.own w.heap.size Z0.heap.size Z0.heap.size (Nat.le_refl _) Ds)) (Own.from (boxed_own _ _ (fun _ => _)) _))
          (fun _ _ _ _ _ hs _ _ => hs)
          ⟨⟨hI0, hC0⟩, hb10⟩
          (fun x => { tmps := #[.pointer (some ⟨Bs, 0, none⟩), .slice p k cap, undef, undef, u4, u5, .pointer (some ⟨w.heap.size + 1, 0, none⟩), undef, u8, .pointer (some ⟨B9, 0, none⟩), .pointer (some ⟨Y.heap.size, 0, none⟩), .int .i64 (x.val : Int), .complex .f64 (uw (unitN sd j x.val)).1 (uw (unitN sd j x.val)).2, .slice p k cap, .int .i64 k, .pointer (some ⟨Bs, 0, none⟩), .pointer (some ⟨Bs, 0, none⟩), .pointer (some ⟨Bs, 1, none⟩), .int .i64 k, .bool false, .slice p k cap, .int .i64 k, .slice (some ⟨w.heap.size, 0, none⟩) 0 k, .slice p k cap, .int .i64 k, .int .i64 k, .bool false, u27, u28, u29, u30, u31, u32, u33, u34, u35, u36, u37, u38, u39, u40, u41, u42, u43, u44, u45, u46, u47, u48, u49, .pointer (some ⟨Bs, 0, none⟩), .pointer (some ⟨Bs, 0, none⟩), .pointer (some ⟨Bs, 0, none⟩), .int .i64 WD, .int .i64 h, .slice (some ⟨G9, 0, none⟩) h h, .slice (some ⟨G9, 0, none⟩) h h, .int .i64 h, .int .i64 j, .bool true, .int .i64 j, .pointer (some ⟨Bs, 0, none⟩), .int .i64 j, .func (.func 21) #[] #[.pointer (some ⟨Y.heap.size + 1, 0, none⟩), .pointer (some ⟨Y.heap.size + 1 + 1, 0, none⟩)], .int .i64 (x.val : Int), .complex .f64 (uw (unitN sd j x.val)).1 (uw (unitN sd j x.val)).2, undef, undef, undef, undef, undef, undef, undef, undef, undef, undef, undef, undef, u78, undef], defers := [] }) ?assign ?body ?done ?stop
        case assign =>
          intro l x W K hK
          simp only [dirA]
          gi_wp2
          exact hK
        case body =>
          rintro l pre x W ⟨⟨⟨⟨hbx6, hrP⟩, ⟨hbx9, xs, hrL, hLX⟩, hbl⟩, hC⟩, hb⟩ hlen
          obtain ⟨z, hz⟩ : ∃ z, zs.getD x.val (0, 0) = z := ⟨_, rfl⟩
          have hzb := HFm.out x.val x.isLt
          rw [hz] at hzb
          have hsb := sumS_bound sd j (fun q => zs.getD q (0, 0)) HFm.out pre
          obtain ⟨a, b, hab, ha, hb2⟩ := hLX.2.1 hlt
          obtain ⟨re1, im1, hm, m1, m2⟩ := mulW (IsW.ofInt z.1 (by omega)) (IsW.ofInt z.2 (by omega)) hzb.1 hzb.2 (unitN sd j x.val)
          obtain ⟨t1, t2⟩ := tm_bound hzb.1 hzb.2 (unitN sd j x.val)
          obtain ⟨re, im, hs2, r1, r2⟩ := addW ha hb2 m1 m2 (by omega) (by omega)
          have hmul := fun W1 => run_complex_mul (P := Tryd.prog) W1 52 _ _ _ _ _ _ hm
          have hadd := fun W1 => run_complex_sum (P := Tryd.prog) W1 .add (.inl rfl) 52 .f64 _ _ _ _ _ _ hs2
          obtain ⟨pP, cP, rfl, _, _, hrr⟩ := own_rd hrP
          obtain ⟨gP, rfl, hgP0, hgP1, hgc, _⟩ := hrr (by omega)
          have hzx : zs[x.val]? = some z := by
            have hql : x.val < zs.length := by rw [HM.out]; exact x.isLt
            rw [← hz]; simp [List.getD, hql]
          have d1 := hbx9.cell
          have d2 := hb.cell
          have d3 := hbx6.cell
          have d4 : W.cell? ⟨gP, x.val, none⟩ = some (pW z) := by rw [hgc x.val (by have := x.isLt; omega)]; simp [hzx]
          have d5 : W.drew.cell? ⟨G9, j, none⟩ = some (.complex .f64 a b) := by
            show W.cell? ⟨G9, j, none⟩ = _
            rw [hrL.cellAt j (by omega)]; exact hab
          have d5w : W.cell? ⟨G9, j, none⟩ = some (.complex .f64 a b) := d5
          have d6w : W.frozen? ⟨G9, j, none⟩ = false := hrL.frozenAt j
          have d6 : W.drew.frozen? ⟨G9, j, none⟩ = false := hrL.frozenAt j
          have hxk0 : (0 : Int) ≤ (x.val : Int) := by omega
          have hxk1 : (x.val : Int) < (k : Int) := by have := x.isLt; omega
          have hj0 : (0 : Int) ≤ (j : Int) := by omega
          unfold pW at d4
          gi_wp2_with fail
          refine wpIn_region_held l _ (S := fun W' => W'.cell? ⟨B9, 0, none⟩ = some (.slice (some ⟨G9, 0, none⟩) h h) ∧ W'.cell? ⟨Y.heap.size, 0, none⟩ = some (.int .i64 (j : Int)) ∧ W'.cell? ⟨w.heap.size + 1, 0, none⟩ = some (.slice (some ⟨gP, 0, none⟩) k cP) ∧ W'.cell? ⟨gP, x.val, none⟩ = some (.complex .f64 (floatOfInt .f64 z.1) (floatOfInt .f64 z.2)))
            (by kernel_rfl) (by kernel_rfl) (by rintro ⟨a, w, h⟩; exact h) ⟨d1, d2, d3, d4⟩ (fun hHeld => ?_)
          refine wpAnyH_take (i := 0) (v := .slice (some ⟨G9, 0, none⟩) h h) rfl (by kernel_rfl) (by kernel_rfl) (by kernel_rfl) (fun _ _ _ h => h) (Or.inl ⟨by rfl, ?_⟩) hHeld ?_
          · intro w1 hSw
            (try dsimp only at hSw)
            obtain ⟨q1, q2, q3, q4⟩ := hSw
            go_simp
          (try simp only [Act.put])
          refine wpAnyH_take (i := 1) (v := .int .i64 (j : Int)) rfl (by kernel_rfl) (by kernel_rfl) (by kernel_rfl) (fun _ _ _ h => h) (Or.inl ⟨by rfl, ?_⟩) hHeld ?_
          · intro w1 hSw
            (try dsimp only at hSw)
            obtain ⟨q1, q2, q3, q4⟩ := hSw
            go_simp
          (try simp only [Act.put])
          refine wpAnyH_take (i := 2) (v := .pointer (some ⟨G9, j, none⟩)) rfl (by kernel_rfl) (by kernel_rfl) (by kernel_rfl) (fun _ _ _ h => h) (Or.inl ⟨by rfl, ?_⟩) hHeld ?_
          · intro w1 hSw
            (try dsimp only at hSw)
            obtain ⟨q1, q2, q3, q4⟩ := hSw
            go_simp
          (try simp only [Act.put])
          refine wpAnyH_take (i := 4) (v := .slice (some ⟨gP, 0, none⟩) k cP) rfl (by kernel_rfl) (by kernel_rfl) (by kernel_rfl) (fun _ _ _ h => h) (Or.inl ⟨by rfl, ?_⟩) hHeld ?_
          · intro w1 hSw
            (try dsimp only at hSw)
            obtain ⟨q1, q2, q3, q4⟩ := hSw
            go_simp
          (try simp only [Act.put])
          refine wpAnyH_take (i := 5) (v := .int .i64 (x.val : Int)) rfl (by kernel_rfl) (by kernel_rfl) (by kernel_rfl) (fun _ _ _ h => h) (Or.inl ⟨by rfl, ?_⟩) hHeld ?_
          · intro w1 hSw
            (try dsimp only at hSw)
            obtain ⟨q1, q2, q3, q4⟩ := hSw
            go_simp
          (try simp only [Act.put])
          refine wpAnyH_take (i := 6) (v := .pointer (some ⟨gP, x.val, none⟩)) rfl (by kernel_rfl) (by kernel_rfl) (by kernel_rfl) (fun _ _ _ h => h) (Or.inl ⟨by rfl, ?_⟩) hHeld ?_
          · intro w1 hSw
            (try dsimp only at hSw)
            obtain ⟨q1, q2, q3, q4⟩ := hSw
            go_simp
          (try simp only [Act.put])
          refine wpAnyH_take (i := 7) (v := .complex .f64 (floatOfInt .f64 z.1) (floatOfInt .f64 z.2)) rfl (by kernel_rfl) (by kernel_rfl) (by kernel_rfl) (fun _ _ _ h => h) (Or.inl ⟨by rfl, ?_⟩) hHeld ?_
          · intro w1 hSw
            (try dsimp only at hSw)
            obtain ⟨q1, q2, q3, q4⟩ := hSw
            go_simp
          (try simp only [Act.put])
          refine wpAnyH_take (i := 8) (v := .complex .f64 (uw (unitN sd j x.val)).1 (uw (unitN sd j x.val)).2) rfl (by kernel_rfl) (by kernel_rfl) (by kernel_rfl) (fun _ _ _ h => h) (Or.inl ⟨by rfl, ?_⟩) hHeld ?_
          · intro w1 hSw
            (try dsimp only at hSw)
            obtain ⟨q1, q2, q3, q4⟩ := hSw
            go_simp
          (try simp only [Act.put])
          refine wpAnyH_take (i := 9) (v := .complex .f64 re1 im1) rfl (by kernel_rfl) (by kernel_rfl) (by kernel_rfl) (fun _ _ _ h => h) (Or.inl ⟨by rfl, ?_⟩) hHeld ?_
          · intro w1 hSw
            (try dsimp only at hSw)
            obtain ⟨q1, q2, q3, q4⟩ := hSw
            go_simp
          (try simp only [Act.put])
          refine wpAnyH_ready (rs := [3]) (by kernel_rfl) (by simp) ?_
          refine AllReadyH.cons rfl (fun K hK => ?_) AllReadyH.nil
          go_simp
          refine hK.out _ _ hHeld (fun hHeld => ?_)
          clear hK K
          refine wpAnyH_take (i := 10) (v := .complex .f64 re im) rfl (by kernel_rfl) (by kernel_rfl) (by kernel_rfl) (fun _ _ _ h => h) (Or.inl ⟨by rfl, ?_⟩) hHeld ?_
          · intro w1 hSw
            (try dsimp only at hSw)
            obtain ⟨q1, q2, q3, q4⟩ := hSw
            go_simp
          (try simp only [Act.put])
          refine wpAnyH_take (i := 11) (v := .pointer (some ⟨G9, j, none⟩)) rfl (by kernel_rfl) (by kernel_rfl) (by kernel_rfl) (fun _ _ _ h => h) (Or.inl ⟨by rfl, ?_⟩) hHeld ?_
          · intro w1 hSw
            (try dsimp only at hSw)
            obtain ⟨q1, q2, q3, q4⟩ := hSw
            go_simp
          (try simp only [Act.put])
          refine wpAnyH_ready (rs := [12]) (by kernel_rfl) (by simp) ?_
          refine AllReadyH.cons rfl (fun K hK => ?_) AllReadyH.nil
          go_simp
          have hgG : gP ≠ G9 := fun e => hvG (by rw [e]; rfl)
          have nB : ∀ g, g ≠ G9 → (W.drew.setCell ⟨G9, j, none⟩ (.complex .f64 re im)).heap[g]? = W.heap[g]? := fun g hg => Below.heap_setCell W.drew ⟨G9, j, none⟩ (.complex .f64 re im) g hg
          have e9 : Boxed (W.drew.setCell ⟨G9, j, none⟩ (.complex .f64 re im)) B9 49 (.slice (some ⟨G9, 0, none⟩) h h) := (nB B9 (by omega)).trans hbx9
          have e10 : Boxed (W.drew.setCell ⟨G9, j, none⟩ (.complex .f64 re im)) Y.heap.size 3 (.int .i64 (j : Int)) := (nB Y.heap.size (by omega)).trans hb
          have e6 : Boxed (W.drew.setCell ⟨G9, j, none⟩ (.complex .f64 re im)) (w.heap.size + 1) 49 (.slice (some ⟨gP, 0, none⟩) k cP) := (nB _ (by omega)).trans hbx6
          refine hK.out _ _ ⟨e9.cell, e10.cell, e6.cell, (World.cell?_of_block (nB gP hgG)).trans d4⟩ (fun hHeld => ?_)
          clear hK K
          refine wpAnyH_done (by kernel_rfl) ?_ _
          have hlx : xs.length = h := by have := hrL.1; omega
          have hBsG : Bs ≠ G9 := by have := HS.out.lt; omega
          refine ⟨(KeepsOthers.drew W).trans (KeepsOthers.setCell _ _ _), fun g hg => nB g ?_, ⟨⟨⟨e6, own_setCell (w := W.drew) (p := ⟨G9, j, none⟩) hrP hvG _⟩, ⟨e9, _, (World.ownsRow.stored (w := W.drew) hrL j (.complex .f64 re im)).1, ?_⟩, ?_⟩, ?_⟩, e10⟩
          · rcases (by simpa using hg : g = Y.heap.size + 1 ∨ g = Y.heap.size + 1 + 1 ∨ g = Bs) with rfl | rfl | rfl
            · omega
            · omega
            · exact hBsG
          · refine hLX.set hlx hlt ?_ ?_
            · rw [sumS_snoc]; simp only [hz]; exact r1
            · rw [sumS_snoc]; simp only [hz]; exact r2
          · exact hbl.drew.setCell (p := ⟨G9, j, none⟩) (by show w.heap.size ≤ G9; omega) _
          · obtain ⟨oc, hoc⟩ : ∃ cs t fr, W.heap[G9]? = some (.cells cs t fr) := by
              rcases hrL.2 with ⟨hh, _⟩ | ⟨g0, c0, cur0, hh, _, hgb, _⟩
              · cases hh
              · cases hh; exact ⟨_, _, _, hgb⟩
            obtain ⟨t0, fr0, hoc⟩ := hoc
            exact CollD.set (W := W.drew) hC hoc rfl j _
        case done =>
          rintro D ys W hD rfl ⟨⟨hI, hC⟩, _⟩ hK
          have hDl := (Array.getElem?_eq_some_iff.1 hK).1
          gi_wp2
          refine ⟨⟨j + 1, D :: Ds, .pointer (some ⟨Y.heap.size, 0, none⟩), .bool true, .int .i64 (j : Int), .pointer (some ⟨Bs, 0, none⟩), .int .i64 (j : Int), .func (.func 21) #[] #[.pointer (some ⟨Y.heap.size + 1, 0, none⟩), .pointer (some ⟨Y.heap.size + 1 + 1, 0, none⟩)], .int .i64 ((j : Int) + 1), ?_, hlt, ?_, ?_, by omega⟩, ?_⟩
          · rw [show ((j + 1 : Nat) : Int) = (j : Int) + 1 by omega]
            rfl
          · obtain ⟨k1, ⟨k2, xs, k3, k4⟩, k5⟩ := hI
            exact Lib.hid ⟨k1, ⟨k2, xs, k3, k4.next⟩, k5⟩
          · exact Lib.hid ((hC.cons (by omega) hD hK).mono hDl)
          · simp [intOf]; omega
        case stop =>
          rintro D c pre W _ _ h _
          exact h.elim
      · obtain rfl : j = h := by omega
        have hge2 : ¬ ((j : Int) < (j : Int)) := by omega
        gi_wp2
        refine leaves_coll (base := w.heap.size) (B := Y.heap.size) (fun W' => W'.ownsRow G9 52 1 (.slice (some ⟨G9, 0, none⟩) j j) j xs ∧ Below w.heap.size w W') ?_ ?_ Ds Y HD.out ⟨hrL, hbl⟩
        · rintro W' D hD hK ⟨k1, k2⟩
          exact ⟨ownsRow_putObj k1 _ hK rfl, k2.trans (belowK_b (w := w) (Nat.le_refl _) W' D _ _ hD hK rfl rfl)⟩
        · rintro W' ⟨k1, k2⟩
          exact ⟨_, results_tmp2 rfl _ _ _, _, rfl, k2, xs, own_le k1 (by omega), fun i hi => hLX.1 i hi hi⟩
end Go.Proofs.YtcdlmjbjpeokfaaDoor

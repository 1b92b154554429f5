/-
  WALK: MergeOneByOne.
-/
import Derived.Test.YtahdaccmokjgpaaGiven
import Derived.Deep.RegionHeld3
namespace Go.Proofs.Ytahdaccmokjgpaa
open Go.RowKit ArgK
set_option linter.unusedVariables false

/-- At the head of each round over the lists. -/
def GvRel (w : World) (ks : List Kl) (k : Nat) (gv : Value) (wr : World) : Prop :=
  k ≤ ks.length ∧ wr.ownsRow w.heap.size 35 5 gv k (encK (ks.take k)) ∧ Below w.heap.size w wr

/-- At the head of each round over what is told. -/
def OnRel (B : Nat) (w6 : World) (mb hb : Nat) (sv : Value) (ps : List (Nat × Bool)) (bottom : Bool) (lists : List (List Ent)) (r j : Nat) (wr : World) : Prop :=
  j ≤ r ∧ MerAt wr B mb hb sv (ps.map fdV) bottom (FdI B ps) (itm bottom j (Mst.new lists)) ∧ Kp B (mT3 ++ fdT) w6 wr

set_option maxRecDepth 100000 in
set_option maxHeartbeats 4000000 in
theorem One_walk (v : Value) (z : List Ent) (tv : Value) (tz : List Int) (bottom : Bool) (w : World) (h0 : IsSl w 5 48 IsEnt [v] z) (h1 : XKit.IsRow w tv tz) :
    Calls Try.prog 9 #[v, tv, .bool bottom] w fun e w' => e = .returned (.bool true) ∧ Below w.heap.size w w' := by
  obtain ⟨i0, hi0, hz0, hz1, hz2⟩ := info_parts (show (Try.prog.info? 35).map (fun i => (i.zero, i.size, i.bytes)) = some (some (.agg #[.slice none 0 0, .int .i64 0, .bool false, .int .i64 0, .bool false]), 5, 56) by kernel_rfl)
  have hbu : ∀ (W : World) (q : Option Addr) (m k : Nat), (Instr.build 35 #[(0, .slice q m k)]).run Try.prog W = .ok (.agg #[.slice q m k, .int .i64 0, .bool false, .int .i64 0, .bool false]) W := fun W q m k => run_build W _ _ _ (by kernel_rfl)
  obtain ⟨hES, hzl, hzw⟩ := esl_arg h0
  obtain ⟨all, hall⟩ : ∃ all, freshF [] z = all := ⟨_, rfl⟩
  have HD : Hid (Dist all) := Lib.hid (hall ▸ freshF_dist z [] List.Pairwise.nil)
  have hl : all.length ≤ 60 := hall ▸ freshF_len z [] (by simp)
  have HW : Hid (∀ e ∈ all, (Lit.int .i64 e.s).wf = true) := Lib.hid (fun e he => by
    rw [← hall] at he
    rcases freshF_sub z [] e he with h | h
    · simp at h
    · exact hzw e h)
  obtain ⟨n, hn⟩ : ∃ n, all.length = n := ⟨_, rfl⟩
  have HF : Hid (∀ W, Below w.heap.size w W → Calls Try.prog 26 #[v] W (fun e W' => ∃ q c, e = .returned (.slice q n c) ∧ Below W.heap.size W W' ∧ W'.ownsRow W.heap.size 24 5 (.slice q n c) n (encE all))) := Lib.hid (fun W hb => by rw [← hn]; exact fresh_run hES hzl hall hb)
  have HR := Lib.hid h1
  have HN := Lib.hid hn
  have HL := Lib.hid hl
  obtain ⟨R, hR⟩ : ∃ R, lastG all bottom [] all = R := ⟨_, rfl⟩
  obtain ⟨r, hr⟩ : ∃ r, R.length = r := ⟨_, rfl⟩
  have hRl : r ≤ 60 := by have := lastG_length all bottom all []; rw [hR, hr] at this; simp at this; omega
  have HRR := Lib.hid hR
  have HRl := Lib.hid hRl
  have HRn := Lib.hid hr
  rw [hn] at hl
  clear h0 h1 hES hzl hzw hall hn hR hr
  go_enter Try.func9, Try.ntmps9
  go_wp2_with fail
  refine (begun_calls _).mono ?_
  rintro e y1 ⟨rfl, hb1⟩
  have B1 := Lib.hid hb1
  clear hb1
  go_wp2_with fail
  refine (HF.out y1 B1.out).mono ?_
  rintro e y2 ⟨q0, c0, rfl, hb2, ho2⟩
  have B2 := Lib.hid (B1.out.trans (hb2.mono B1.out.size))
  have E2 : Hid (ESl y2 (.slice q0 n c0) all) := Lib.hid (ESl.of_own ho2)
  clear hb2 ho2
  go_wp2_with fail
  refine (dealt_run E2.out HL.out (row_below HR.out B2.out)).mono ?_
  rintro e y3 ⟨lp, m, lc, lists, rfl, hm, hb3, hDL, hDe⟩
  have B3 := Lib.hid (B2.out.trans (hb3.mono B2.out.size))
  have HDL := Lib.hid hDL
  have HDe := Lib.hid hDe
  have HM := Lib.hid hm
  have hm60 : m ≤ 60 := by have := hDe.2.2; have := HL.out; omega
  clear hb3 hDL hDe hm
  have CA : Hid (Calls Try.prog 22 #[.slice lp m lc, .bool bottom] y3 (fun e w' => ∃ q c, e = .returned (.tuple #[.slice q r c, .int .i64 0]) ∧ Below y3.heap.size y3 w' ∧ w'.ownsRow y3.heap.size 24 5 (.slice q r c) r (encE R))) := Lib.hid (by
    have := merge_dealt bottom HDL.out HDe.out HD.out HL.out HW.out
    rw [HRR.out, HRn.out] at this
    exact this)
  have HOL : Hid (OneLaw lists bottom R (Mst.new lists)) := Lib.hid (one_law HDe.out.1 (by rw [merge_last bottom HD.out HDe.out, HRR.out]))
  have HSW : Hid (SWf (Mst.new lists).S) := Lib.hid (swf_new (fun L hL e he => HW.out e (HDe.out.mem hL he)))
  go_wp2_with fail
  refine CA.out.mono ?_
  rintro e y4 ⟨qa, ca, rfl, hb4, ha4⟩
  have B4 := Lib.hid (B3.out.trans (hb4.mono B3.out.size))
  have A4 := Lib.hid ha4
  obtain ⟨ks, hks⟩ := ks_ex ((HDL.out.below hb4).lls).2
  have hkl : ks.length = m := by rw [hks.2.1, HM.out]
  have HK4 := Lib.hid hks
  have HKL := Lib.hid hkl
  have H0 : Hid (GvRel y4 ks 0 (.slice none 0 0) y4) := Lib.hid ⟨Nat.zero_le _, own_none, Below.refl _ _⟩
  clear hb4 ha4 hks hkl
  go_wp2_with fail
  go_loopw [11, 12] (fun gv i wr => ∃ k : Nat, i = .int .i64 k ∧ GvRel y4 ks k gv wr) (fun _ i _ => m - (intOf i).toNat)
  case atStart => exact ⟨0, rfl, H0.out⟩
  case round =>
    obtain ⟨gv, rfl⟩ : ∃ gv : Value, gv = u11 := ⟨_, rfl⟩
    obtain ⟨k, rfl, hkn, hG, hbl⟩ := hrel
    obtain ⟨wo, rfl⟩ : ∃ wo : World, wo = wr := ⟨_, rfl⟩
    rw [HKL.out] at hkn
    obtain ⟨gp, gc, rfl, _, _, _⟩ := own_rd hG
    by_cases hlt : k < m
    · obtain ⟨x, hx⟩ : ∃ x, ks[k]? = some x := ⟨_, List.getElem?_eq_getElem (by rw [HKL.out]; exact hlt)⟩
      obtain ⟨_, hx1, hx2, hx3, hx4, ⟨a, rfl, ha, hcell⟩, hE⟩ := HK4.out.2.2 k x hx
      have hcw : wo.cell? (a.add k) = some (.slice x.q x.es.length x.c) := (hbl.cell (p := a.add k) (cell_lt hcell)).trans hcell
      have hsn : encK (ks.take (k + 1)) = encK (ks.take k) ++ x.cells := by rw [List.take_add_one, hx]; exact encK_snoc _ _
      obtain ⟨q, xc, es, fin, mute, u3, dn⟩ := x
      simp only at hx1 hx2 hx3 hx4 hcw
      subst hx1 hx2 hx3 hx4
      obtain ⟨nl, hnl⟩ : ∃ nl, es.length = nl := ⟨_, rfl⟩
      unfold Kl.cells at hsn
      simp only [hnl] at hcw hsn
      have hva := hG.alloc (.cells #[.slice q nl xc, .int .i64 0, .bool false, .int .i64 0, .bool false] 35)
      have hnews := World.news_of_block (cs := #[.slice q nl xc, .int .i64 0, .bool false, .int .i64 0, .bool false]) (t := 35) (fr := (0, 0)) (heap_alloc_new wo (.cells #[.slice q nl xc, .int .i64 0, .bool false, .int .i64 0, .bool false] 35))
      have chk1 : k + 1 ≤ maxLen := by unfold maxLen; omega
      have chk2 : (k + 1) * 56 ≤ 140737488355328 := by omega
      have chk3 : y4.heap.size ≤ (wo.alloc (.cells #[.slice q nl xc, .int .i64 0, .bool false, .int .i64 0, .bool false] 35)).heap.size := by have := hbl.size; simp; omega
      have j0 : (0 : Int) ≤ (k : Int) := by omega
      have j1 : (k : Int) < (m : Int) := by omega
      have HSN := Lib.hid hsn
      have HBL := Lib.hid hbl
      have HG := Lib.hid hG
      clear hx hcell hE hsn hbl hG hnl
      go_wp2_with (at_builtin; refine wpList_append_own _ rfl _ _ 33 rfl y4.heap.size 35 i0 _ 5 56 Try.underlying33 hi0 hz0 hz1 hz2 rfl (by decide) (.slice gp k gc) k _ rfl hva ⟨wo.heap.size, 0, none⟩ 1 1 [.slice q nl xc, .int .i64 0, .bool false, .int .i64 0, .bool false] rfl rfl hnews (by simp [Value.oneCell']) chk1 chk2 chk3 ?_)
      intro gv2 w2 hown2 hgrow2 _
      have HNx : Hid (GvRel y4 ks (k + 1) gv2 w2) := Lib.hid ⟨by rw [HKL.out]; omega, by rw [HSN.out]; exact hown2, (HBL.out.alloc HBL.out.size _).grown hgrow2 chk3 (fun b hb => (HG.out.lt b hb).1)⟩
      clear hown2 hgrow2 chk3 hva hnews
      go_wp2
      go_roundw
      case rel => exact ⟨k + 1, by go_num, HNx.out⟩
      case measure => simp [intOf]; omega
    · obtain rfl : k = m := by omega
      rw [List.take_of_length_le (Nat.le_of_eq HKL.out)] at hG
      have hKL := kls_own hG HKL.out (fun x hx => by
        obtain ⟨i, hi⟩ := List.getElem?_of_mem hx
        obtain ⟨h1, _, _, _, _, _, hE⟩ := HK4.out.2.2 i x hi
        have := HDe.out.len h1
        have := HL.out
        exact ⟨(hE.below hbl (Nat.le_refl _)).mono hbl.size, by omega⟩)
      have HKW := Lib.hid hKL
      have BO := Lib.hid hbl
      clear hG hKL hbl
      go_wp2_with fail
      refine (fed_calls HKL.out (by omega) HKW.out).mono ?_
      rintro e y5 ⟨fp, sp, fc, sc, ps, rfl, hb5, hps, hF, hS, hI⟩
      rw [HKL.out] at hF hS hps ⊢
      rw [HK4.out.1] at hI
      have B5 := Lib.hid hb5
      have HPS := Lib.hid hps
      have HF5 := Lib.hid hF
      have HI5 := Lib.hid hI
      obtain ⟨_, _, esv, hsp, hSL⟩ := own_src hS
      simp only [Value.slice.injEq] at esv
      obtain ⟨rfl, _, rfl⟩ := esv
      have HSP := Lib.hid hsp
      have HSL := Lib.hid hSL
      clear hb5 hps hF hS hI hsp hSL
      go_wp2_with fail
      refine (New_calls (fs := ps.map fdV) bottom (by rw [List.length_map, HPS.out]) (by omega) HSP.out HSL.out (by
        intro u hu
        obtain ⟨p, _, rfl⟩ := List.mem_map.1 hu
        unfold fdV
        split <;> rfl)).mono ?_
      rintro e y6 ⟨mb, hb, sv, vv, rfl, hb6, hM6, hP6⟩
      have hMer := MerAt.startF B5.out.size HI5.out (by rw [HPS.out, HM.out]) HSW.out hb6 hM6 hP6
      have B6 := Lib.hid (B5.out.trans (hb6.mono B5.out.size))
      have HF6 := Lib.hid (own_belowAll HF5.out hb6)
      have H06 : Hid (OnRel wo.heap.size y6 mb hb sv ps bottom lists r 0 y6) := Lib.hid ⟨Nat.zero_le _, hMer, Kp.refl _ _ _⟩
      clear hb6 hM6 hP6 hMer
      go_wp2_with fail
      go_loopw [16] (fun i wr => ∃ j : Nat, i = .int .i64 j ∧ OnRel wo.heap.size y6 mb hb sv ps bottom lists r j wr) (fun i _ => r - (intOf i).toNat)
      case atStart => exact ⟨0, rfl, H06.out⟩
      case round =>
        obtain ⟨j, rfl, hjr, hMer, hk⟩ := hrel
        obtain ⟨wn, rfl⟩ : ∃ wn : World, wn = wr := ⟨_, rfl⟩
        have hfl : (ps.map fdV).length ≤ 1024 := by rw [List.length_map, HPS.out]; omega
        have hB6 : wo.heap.size ≤ y6.heap.size := B6.out.size
        have CN := Next_calls (fdLaw wo.heap.size ps) hMer hfl (Nat.le_trans hB6 hk.size)
        by_cases hlt : j < r
        · obtain ⟨x, hx⟩ : ∃ x, R[j]? = some x := ⟨_, List.getElem?_eq_getElem (by rw [HRn.out]; exact hlt)⟩
          obtain ⟨hans, hahd⟩ := HOL.out.told hx
          have HC : Hid (Calls Try.prog 32 #[.pointer (some ⟨mb, 0, none⟩)] wn (fun e w' => e = .returned (.tuple #[x.val, .bool true, .int .i64 0]) ∧ OnRel wo.heap.size y6 mb hb sv ps bottom lists r (j + 1) w')) := Lib.hid (CN.mono (fun e w' ⟨h1, h2, h3⟩ => by
            rw [hans] at h1
            rw [← itm_succ] at h2
            exact ⟨h1, by omega, h2, hk.trans h3⟩))
          have HA := Lib.hid hahd
          have HX := Lib.hid hx
          unfold Ent.val at HC
          clear hMer hk hfl hB6 CN hans hahd hx
          go_wp2_with fail
          refine HC.out.mono ?_
          rintro e y7 ⟨rfl, h7⟩
          have H7 := Lib.hid h7
          have hB6 : wo.heap.size ≤ y6.heap.size := B6.out.size
          have hb7 : Below wo.heap.size wo y7 := B6.out.trans (h7.2.2.below hB6)
          have hb47 : Below y4.heap.size y4 y7 := BO.out.trans (hb7.mono BO.out.size)
          obtain ⟨qp, _, eq1, hqp⟩ := (ESl.of_own A4.out).below hb47
          simp only [Value.slice.injEq] at eq1
          have eq2 := eq1.1
          clear eq1
          subst eq2
          obtain ⟨a, rfl, hc⟩ := hqp j x HX.out
          have fx := Five.of hc
          have lx := fx.lt
          obtain ⟨x0, x1, x2, x3, x4⟩ := fx
          have HB7 := Lib.hid hb7
          have H47 := Lib.hid hb47
          have HF7 := Lib.hid (h7.2.2.own HF6.out (.inl (by decide)))
          have HI7 := Lib.hid h7.2.1.2.1
          have j0 : (0 : Int) ≤ (j : Int) := by omega
          have j1 : (j : Int) < (r : Int) := by omega
          clear h7 hB6 hb7 hb47 hqp hc
          go_wp2
          go_quiet (fail)
          go_wp2
          have hR8 : Below (y7.alloc (eBlk x)).heap.size (y7.alloc (eBlk x)) (y7.alloc (eBlk x)) := Below.refl _ _
          go_loopw [20] (fun i wr => ∃ i' : Nat, i' ≤ k ∧ i = .int .i64 i' ∧ Below (y7.alloc (eBlk x)).heap.size (y7.alloc (eBlk x)) wr) (fun i _ => k - (intOf i).toNat)
          case atStart => exact ⟨0, Nat.zero_le _, rfl, below_drewN (Below.refl _ _) _⟩
          case round =>
            obtain ⟨i, hik, rfl, hb8⟩ := hrel
            obtain ⟨wv, rfl⟩ : ∃ wv : World, wv = wr := ⟨_, rfl⟩
            have hb78 : Below y7.heap.size y7 wv := ((Below.refl _ y7).alloc (Nat.le_refl _) _).trans (hb8.mono (by simp))
            by_cases hil : i < k
            · obtain ⟨p, hp⟩ : ∃ p, ps[i]? = some p := ⟨_, List.getElem?_eq_getElem (by rw [HPS.out]; exact hil)⟩
              obtain ⟨kx, hkx⟩ : ∃ kx, ks[i]? = some kx := ⟨_, List.getElem?_eq_getElem (by rw [HKL.out]; exact hil)⟩
              obtain ⟨hL, _, _, _, _, ⟨al, hlp, hab, hcell⟩, hE⟩ := HK4.out.2.2 i kx hkx
              subst hlp
              obtain ⟨nn, hS, hn1, hn2⟩ := HA.out i kx.es hL
              obtain ⟨hcnt, hplt⟩ := HI7.out.count hp hS
              simp only at hcnt
              have hb48 : Below y4.heap.size y4 wv := H47.out.trans (hb78.mono H47.out.size)
              have hE8 := hE.below hb48 (Nat.le_refl _)
              have hcl : wv.cell? (al.add i) = some (.slice kx.q kx.es.length kx.c) := (hb48.cell (cell_lt hcell)).trans hcell
              have hcu : wv.cell? ⟨p.1, 5, none⟩ = some (.int .i64 nn) := (hb78.cell (p := ⟨p.1, 5, none⟩) hplt).trans hcnt
              obtain ⟨g, rfl, hgl, hgc⟩ : ∃ g, fp = some ⟨g, 0, none⟩ ∧ g < wv.heap.size ∧ (∀ j, j < k * 1 → wv.cell? ⟨g, j, none⟩ = (ps.map ptV)[j]?) := by
                obtain ⟨_, _, e, _, _, hr⟩ := own_rd (own_belowAll HF7.out hb78)
                simp only [Value.slice.injEq] at e
                obtain ⟨g, e2, _, h2, h3, _⟩ := hr (by omega)
                exact ⟨g, e.1.trans e2, h2, h3⟩
              have hcg : wv.cell? ⟨g, i, none⟩ = some (.pointer (some ⟨p.1, 0, none⟩)) := by
                rw [hgc i (by omega), List.getElem?_map, hp]
                rfl
              have hz8 : wv.heap[y7.heap.size]? = some (eBlk x) := (hb8.block _ (by simp)).trans (World.alloc_heap_new y7 _)
              obtain ⟨z0, z1, z2, z3, z4⟩ := eBlk_cells hz8
              have hzl := cell_lt z0
              obtain ⟨ln, hln⟩ : ∃ ln, kx.es.length = ln := ⟨_, rfl⟩
              have hll : ln ≤ 60 := by rw [← hln]; have := HDe.out.short (List.mem_of_getElem? hL); have := HL.out; omega
              rw [hln] at hcl hn1
              have i0 : (0 : Int) ≤ (i : Int) := by omega
              have i1 : (i : Int) < (k : Int) := by omega
              have i2 : (ln : Int) ≤ 60 := by omega
              have i3 : (nn : Int) ≤ (ln : Int) + 1 := by omega
              have hw1 : IntKind.i64.wrap ((ln : Int) + 1) = (ln : Int) + 1 := by rw [IntKind.wrap_i64]; omega
              have hd1 : decide ((ln : Int) + 1 < (nn : Int)) = false := by simp; omega
              have HB8 := Lib.hid hb8
              by_cases hn1' : 1 < nn
              · obtain ⟨y, hy⟩ : ∃ y, kx.es[nn - 2]? = some y := ⟨_, List.getElem?_eq_getElem (by omega)⟩
                obtain ⟨b, hqb, hbb, hfy⟩ := hE8 (nn - 2) y hy
                obtain ⟨t, ht⟩ : ∃ t, nn - 2 = t := ⟨_, rfl⟩
                rw [ht] at hfy
                have hnl := hn2 hn1' y hy
                have HLs : Hid (∀ W : World, Calls Try.prog 33 #[x.val, y.val] W (fun e w' => e = .returned (.bool false) ∧ Below W.heap.size W w')) := Lib.hid (fun W => by
                  have := less_calls x y W
                  rw [decide_eq_false hnl] at this
                  exact this)
                unfold Ent.val at HLs
                rw [hqb] at hcl
                have HKeep : Hid (∀ W, Below wv.heap.size wv W → W.cell? (al.add i) = some (.slice (some b) ln kx.c) ∧ W.cell? ⟨y7.heap.size, 0, none⟩ = some (.int .i64 x.v) ∧ W.cell? ⟨y7.heap.size, 1, none⟩ = some (.string x.c) ∧ W.cell? ⟨y7.heap.size, 2, none⟩ = some (.int .i64 x.i) ∧ W.cell? ⟨y7.heap.size, 3, none⟩ = some (.int .i64 x.s) ∧ W.cell? ⟨y7.heap.size, 4, none⟩ = some (.bool x.d) ∧ W.cell? (b.add (t * 5)) = some (.int .i64 y.v) ∧ W.cell? ⟨(b.add (t * 5)).block, (b.add (t * 5)).off + 1, none⟩ = some (.string y.c) ∧ W.cell? ⟨(b.add (t * 5)).block, (b.add (t * 5)).off + 2, none⟩ = some (.int .i64 y.i) ∧ W.cell? ⟨(b.add (t * 5)).block, (b.add (t * 5)).off + 3, none⟩ = some (.int .i64 y.s) ∧ W.cell? ⟨(b.add (t * 5)).block, (b.add (t * 5)).off + 4, none⟩ = some (.bool y.d)) := Lib.hid (fun W hW => ⟨(hW.cell (cell_lt hcl)).trans hcl, (hW.cell (p := ⟨y7.heap.size, 0, none⟩) hzl).trans z0, (hW.cell (p := ⟨y7.heap.size, 1, none⟩) hzl).trans z1, (hW.cell (p := ⟨y7.heap.size, 2, none⟩) hzl).trans z2, (hW.cell (p := ⟨y7.heap.size, 3, none⟩) hzl).trans z3, (hW.cell (p := ⟨y7.heap.size, 4, none⟩) hzl).trans z4, hfy.below hW hfy.lt⟩)
                obtain ⟨y0, y1', y2', y3', y4'⟩ := hfy
                have hw2 : IntKind.i64.wrap ((nn : Int) - 2) = (t : Int) := by rw [IntKind.wrap_i64]; omega
                have hd2 : decide ((1 : Int) < (nn : Int)) = true := by simp; omega
                have t0 : (0 : Int) ≤ (t : Int) := by omega
                have t1 : (t : Int) < (ln : Int) := by omega
                clear hn2 hnl hy hqb hE hE8 hL hkx hp hS hcnt hcell hb48 hb8 hb78 hgc hz8 hln ht
                go_wp2
                go_region_held3 (fun W => W.cell? (al.add i) = some (.slice (some b) ln kx.c) ∧ W.cell? ⟨y7.heap.size, 0, none⟩ = some (.int .i64 x.v) ∧ W.cell? ⟨y7.heap.size, 1, none⟩ = some (.string x.c) ∧ W.cell? ⟨y7.heap.size, 2, none⟩ = some (.int .i64 x.i) ∧ W.cell? ⟨y7.heap.size, 3, none⟩ = some (.int .i64 x.s) ∧ W.cell? ⟨y7.heap.size, 4, none⟩ = some (.bool x.d) ∧ W.cell? (b.add (t * 5)) = some (.int .i64 y.v) ∧ W.cell? ⟨(b.add (t * 5)).block, (b.add (t * 5)).off + 1, none⟩ = some (.string y.c) ∧ W.cell? ⟨(b.add (t * 5)).block, (b.add (t * 5)).off + 2, none⟩ = some (.int .i64 y.i) ∧ W.cell? ⟨(b.add (t * 5)).block, (b.add (t * 5)).off + 3, none⟩ = some (.int .i64 y.s) ∧ W.cell? ⟨(b.add (t * 5)).block, (b.add (t * 5)).off + 4, none⟩ = some (.bool y.d)) (first | exact ⟨hcl, z0, z1, z2, z3, z4, y0, y1', y2', y3', y4'⟩ | exact HKeep.out _ ⟨hc1.os, hc1.tape, hc1.output, hc1.size, hc1.block⟩) (first | (go_at_call 33; refine (HLs.out _).mono ?_; rintro e w2 ⟨rfl, hc1⟩))
                have hb9 := HB8.out.trans ((show Below wv.heap.size wv w2 from ⟨hc1.os, hc1.tape, hc1.output, hc1.size, hc1.block⟩).mono HB8.out.size)
                go_wp2
                go_roundw
                case rel => exact ⟨i + 1, by omega, by go_num, hb9⟩
                case measure => simp [intOf]; omega
              · have hd2 : decide ((1 : Int) < (nn : Int)) = false := by simp; omega
                have hni : (nn : Int) ≤ 1 := by omega
                clear hn2 hE hE8 hL hkx hp hS hcnt hcell hb48 hb8 hb78 hgc hz8 hln
                go_wp2
                go_quiet (fail)
                go_wp2
                go_roundw
                case rel => exact ⟨i + 1, by omega, by go_num, below_drewN HB8.out _⟩
                case measure => simp [intOf]; omega
            · obtain rfl : i = k := by omega
              have HO : Hid (OnRel wo.heap.size y6 mb hb sv ps bottom lists r (j + 1) wv) := Lib.hid (by
                obtain ⟨h1, h2, h3⟩ := H7.out
                exact ⟨h1, h2.kpE (fdLaw _ _) (Kp.of_below hb78), h3.trans (Kp.of_below hb78)⟩)
              clear hb8 hb78
              go_wp2
              go_roundw
              case rel => exact ⟨j + 1, by go_num, HO.out⟩
              case measure => simp [intOf]; omega
        · obtain rfl : j = r := by omega
          have H0 : Hid (OnRel wo.heap.size y6 mb hb sv ps bottom lists (j + 3) (j + 0) wn) := Lib.hid ⟨by omega, hMer, hk⟩
          clear hMer hk CN hfl
          go_wp2
          go_loopw [22] (fun i wr => ∃ t : Nat, i = .int .i64 t ∧ t ≤ 3 ∧ OnRel wo.heap.size y6 mb hb sv ps bottom lists (j + 3) (j + t) wr) (fun i _ => 3 - (intOf i).toNat)
          case atStart => exact ⟨0, rfl, by omega, H0.out⟩
          case round =>
            obtain ⟨t, rfl, ht3, _, hMer, hk⟩ := hrel
            obtain ⟨wv, rfl⟩ : ∃ wv : World, wv = wr := ⟨_, rfl⟩
            by_cases htl : t < 3
            · have hfl : (ps.map fdV).length ≤ 1024 := by rw [List.length_map, HPS.out]; omega
              have CN := Next_calls (fdLaw wo.heap.size ps) hMer hfl (Nat.le_trans hB6 hk.size)
              obtain ⟨hans, _⟩ := HOL.out.ended t
              rw [HRn.out] at hans
              have HC : Hid (Calls Try.prog 32 #[.pointer (some ⟨mb, 0, none⟩)] wv (fun e w' => e = .returned (.tuple #[zeroE.val, .bool false, .int .i64 0]) ∧ OnRel wo.heap.size y6 mb hb sv ps bottom lists (j + 3) (j + (t + 1)) w')) := Lib.hid (CN.mono (fun e w' ⟨h1, h2, h3⟩ => by
                rw [hans] at h1
                rw [← itm_succ] at h2
                exact ⟨h1, by omega, h2, hk.trans h3⟩))
              unfold zeroE Ent.val at HC
              clear hMer hk hfl CN hans
              go_wp2_with fail
              refine HC.out.mono ?_
              rintro e y7 ⟨rfl, h7⟩
              have HO : Hid (OnRel wo.heap.size y6 mb hb sv ps bottom lists (j + 3) (j + (t + 1)) (y7.alloc (eBlk zeroE))) := Lib.hid (by
                obtain ⟨h1, h2, h3⟩ := h7
                exact ⟨h1, h2.kpE (fdLaw _ _) (kp_alloc _ _ _ _), h3.trans (kp_alloc _ _ _ _)⟩)
              clear h7
              go_wp2
              go_roundw
              case rel => exact ⟨t + 1, by go_num, by omega, HO.out⟩
              case measure => simp [intOf]; omega
            · obtain rfl : t = 3 := by omega
              have hb7 : Below wo.heap.size wo wv := B6.out.trans (hk.below hB6)
              have hb47 : Below y4.heap.size y4 wv := BO.out.trans (hb7.mono BO.out.size)
              have HF7 := Lib.hid (hk.own HF6.out (.inl (by decide)))
              have HI7 := Lib.hid hMer.2.1
              have hE3 : ∀ (i : Nat) (L : List Ent), lists[i]? = some L → (itm bottom (j + 3) (Mst.new lists)).S[i]? = some ⟨L, 0, false, L.length + 1⟩ := by
                have := (HOL.out.ended 2).2
                rw [HRn.out] at this
                exact this
              have HE3 := Lib.hid hE3
              have H47 := Lib.hid hb47
              have HBE : Hid (Below w.heap.size w wv) := Lib.hid (B4.out.trans (hb47.mono B4.out.size))
              clear hMer hk hb7 hb47 hE3
              go_wp2
              go_loopw [26] (fun i wr => ∃ i' : Nat, i' ≤ k ∧ i = .int .i64 i' ∧ Below wv.heap.size wv wr) (fun i _ => k - (intOf i).toNat)
              case atStart => exact ⟨0, Nat.zero_le _, rfl, Below.refl _ _⟩
              case round =>
                obtain ⟨i, hik, rfl, hb8⟩ := hrel
                obtain ⟨wx, rfl⟩ : ∃ wx : World, wx = wr := ⟨_, rfl⟩
                by_cases hil : i < k
                · obtain ⟨p, hp⟩ : ∃ p, ps[i]? = some p := ⟨_, List.getElem?_eq_getElem (by rw [HPS.out]; exact hil)⟩
                  obtain ⟨kx, hkx⟩ : ∃ kx, ks[i]? = some kx := ⟨_, List.getElem?_eq_getElem (by rw [HKL.out]; exact hil)⟩
                  obtain ⟨hL, _, _, _, _, ⟨al, hlp, hab, hcell⟩, hE⟩ := HK4.out.2.2 i kx hkx
                  subst hlp
                  have hS := HE3.out i kx.es hL
                  obtain ⟨hcnt, hplt⟩ := HI7.out.count hp hS
                  simp only at hcnt
                  have hb48 : Below y4.heap.size y4 wx := H47.out.trans (hb8.mono H47.out.size)
                  have hcl : wx.cell? (al.add i) = some (.slice kx.q kx.es.length kx.c) := (hb48.cell (cell_lt hcell)).trans hcell
                  have hcu : wx.cell? ⟨p.1, 5, none⟩ = some (.int .i64 ((kx.es.length + 1 : Nat) : Int)) := (hb8.cell (p := ⟨p.1, 5, none⟩) hplt).trans hcnt
                  obtain ⟨g, rfl, hgl, hgc⟩ : ∃ g, fp = some ⟨g, 0, none⟩ ∧ g < wx.heap.size ∧ (∀ j, j < k * 1 → wx.cell? ⟨g, j, none⟩ = (ps.map ptV)[j]?) := by
                    obtain ⟨_, _, e, _, _, hr⟩ := own_rd (own_belowAll HF7.out hb8)
                    simp only [Value.slice.injEq] at e
                    obtain ⟨g, e2, _, h2, h3, _⟩ := hr (by omega)
                    exact ⟨g, e.1.trans e2, h2, h3⟩
                  have hcg : wx.cell? ⟨g, i, none⟩ = some (.pointer (some ⟨p.1, 0, none⟩)) := by
                    rw [hgc i (by omega), List.getElem?_map, hp]
                    rfl
                  obtain ⟨ln, hln⟩ : ∃ ln, kx.es.length = ln := ⟨_, rfl⟩
                  have hll : ln ≤ 60 := by rw [← hln]; have := HDe.out.short (List.mem_of_getElem? hL); have := HL.out; omega
                  rw [hln] at hcl hcu
                  have i0 : (0 : Int) ≤ (i : Int) := by omega
                  have i1 : (i : Int) < (k : Int) := by omega
                  have i2 : (ln : Int) ≤ 60 := by omega
                  have hw1 : IntKind.i64.wrap ((ln : Int) + 1) = ((ln + 1 : Nat) : Int) := by rw [IntKind.wrap_i64]; omega
                  have HB8 := Lib.hid hb8
                  clear hE hL hkx hp hS hcnt hcell hb48 hb8 hgc hln
                  go_wp2
                  go_quiet (fail)
                  go_wp2
                  go_roundw
                  case rel => exact ⟨i + 1, by omega, by go_num, below_drewN HB8.out _⟩
                  case measure => simp [intOf]; omega
                · have HEE := Lib.hid (HBE.out.trans (hb8.mono HBE.out.size))
                  clear hb8
                  go_wp2
                  go_ret
                  exact ⟨rfl, HEE.out⟩
end Go.Proofs.Ytahdaccmokjgpaa

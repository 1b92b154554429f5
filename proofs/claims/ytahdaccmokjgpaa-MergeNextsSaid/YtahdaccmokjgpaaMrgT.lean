/-
  WALK: a merger takes all heads of the least place away.
-/
import Derived.Test.YtahdaccmokjgpaaMrgS
import Derived.Test.YtahdaccmokjgpaaMem
import Derived.Deep.RegionHeld3
import Derived.StillTailTactics
import Derived.Deep.DeepCutAuto
namespace Go.Proofs.Ytahdaccmokjgpaa
open Go.RowKit ArgK
set_option linter.unusedVariables false

theorem meth2_Len {hb : Nat} {w : World} {p : Option Addr} {n c : Nat} (h : w.cell? ⟨hb, 0, none⟩ = some (.slice p n c)) : (method 235 82 (.pointer (some ⟨hb, 0, none⟩)) "Len").run Try.prog w = .ok (77, .slice p n c) w := by
  have hl : (loadVar 84 ⟨hb, 0, none⟩).run Try.prog w = .ok (.slice p n c) w := by go_simp
  have hw : ∀ (w : World), (Builtin.ssaWrapNilChk_ #[82] 82 #[.pointer (some ⟨hb, 0, none⟩), strVal "", strVal "Len"]).run Try.prog w = .ok (.pointer (some ⟨hb, 0, none⟩)) w := fun w => by kernel_rfl
  have ha : ∀ (w : World), (asAddr (.pointer (some ⟨hb, 0, none⟩))).run Try.prog w = .ok ⟨hb, 0, none⟩ w := fun w => by kernel_rfl
  have hg : ∀ (w : World), (Place.get 82 (.val (.pointer (some ⟨hb, 0, none⟩)))).run Try.prog w = .ok (.pointer (some ⟨hb, 0, none⟩)) w := fun w => by kernel_rfl
  have hr : (receiverAt 82 (.val (.pointer (some ⟨hb, 0, none⟩))) false (some "Len")).run Try.prog w = .ok (.slice p n c) w := by
    unfold receiverAt
    simp [Sem.run_bind, hg, hw, ha, hl]
  have e : (method 235 82 (.pointer (some ⟨hb, 0, none⟩)) "Len").run Try.prog w = (do let x ← receiverAt 82 (.val (.pointer (some ⟨hb, 0, none⟩))) false (some "Len"); pure ((77 : FuncId), x) : Sem (FuncId × Value)).run Try.prog w := by kernel_rfl
  rw [e]
  simp [hr]

theorem meth2_least (hb : Nat) (w : World) : (method 235 82 (.pointer (some ⟨hb, 0, none⟩)) "kindred/merge.least").run Try.prog w = .ok (82, .pointer (some ⟨hb, 0, none⟩)) w := by kernel_rfl

theorem own_none {w : World} {base : Nat} {e : TypeId} {size : Nat} : w.ownsRow base e size (.slice none 0 0) 0 [] := ⟨by simp, .inl ⟨rfl, rfl⟩⟩

set_option maxRecDepth 100000 in
set_option maxHeartbeats 2000000 in
theorem same_calls {w : World} {B mb hb : Nat} {sv v : Value} {fs : List Value} {bottom begun : Bool} {code : Int} {F : List (Option Ent)} {L : List Hdv}
    (hM : MrgIs w B mb hb sv fs bottom begun code) (hP : PileD w B hb v L) (hH : HeapG abv L) (hL : L.Perm (stands F)) (hn : L.length ≤ 1024) (hB : B ≤ w.heap.size) :
    Calls Try.prog 54 #[.pointer (some ⟨mb, 0, none⟩)] w (SamePost w v B mb hb sv fs bottom begun code F) := by
  obtain ⟨i0, hi0, hz0, hz1, hz2⟩ := info_parts headinfo
  have HR : Hid (SameRel w v B mb hb sv fs bottom begun code F (L.length + 1) (.slice none 0 0) w) := Lib.hid ⟨[], L, v, own_none, SameS.start hL, hM, hP, hH, MK.refl _ _ _ _ _, by simp [Value.ownBlock], by omega⟩
  have hmw := hM.lt
  have hbw := hP.lt
  have hsvw : Hid (∀ k, sv.ownBlock = some k → k < w.heap.size) := Lib.hid (fun k hk => (hM.row.lt k hk).2)
  have hst : (stands F).length ≤ 1024 := by rw [← hL.length_eq]; exact hn
  have HST := Lib.hid hst
  have hCF : ∀ (a : Array Value) (w : World), (callFunc 77 a).run Try.prog w = .ok (.enter 77 a) w := fun a w => by kernel_rfl
  have hCL : ∀ (a : Array Value) (w : World), (callFunc 82 a).run Try.prog w = .ok (.enter 82 a) w := fun a w => by kernel_rfl
  have hmL := meth2_least hb
  clear hM hP hH hL hst
  go_enter Try.func54, Try.ntmps54
  go_wp2
  go_loopg [3] (L.length + 1) (fun f s wr => SameRel w v B mb hb sv fs bottom begun code F f s wr)
  case atStart => exact HR.out
  case round =>
    obtain ⟨lv, rfl⟩ : ∃ lv : Value, lv = u3 := ⟨_, rfl⟩
    obtain ⟨out, Lk, v', h1, h2, h3, h4, h5, h6, h7, h8⟩ := hrel
    have HW := Lib.hid (fun W (hE : SameEnd F out Lk) (hW : Below wr.heap.size wr W) => SameRel.stop h1 hE h3 h4 h5 h6 h7 hW)
    have hlen : out.length + Lk.length ≤ 1024 := by
      have := h2.1.length_eq
      rw [List.length_append] at this
      have := HST.out
      omega
    obtain ⟨c0, c1, c2, c3, c4, _⟩ := h3.cells
    obtain ⟨p, n, c, rfl, hnc⟩ : ∃ p n c, v' = .slice p n c ∧ n = Lk.length := by
      obtain ⟨p, c, rfl, _, _, _⟩ := own_rd h4.row
      exact ⟨p, _, c, rfl, rfl⟩
    obtain ⟨p0, _⟩ := h4.cell
    obtain ⟨lp, lc, hlvs, hlcc, hlcm, hlr⟩ := own_rd h1
    have hML : ∀ k, (method 235 82 (.pointer (some ⟨hb, 0, none⟩)) "Len").run Try.prog (wr.drewN k) = .ok (77, .slice p n c) (wr.drewN k) := fun k => meth2_Len (w := wr.drewN k) p0
    clear c0 c1 c2 c4
    by_cases hk : n = 0
    · have hLk : Lk = [] := List.eq_nil_of_length_eq_zero (by omega)
      subst hLk
      have HE := Lib.hid (fun W hW => HW.out W (SameS.empty h2) hW)
      clear h1 h2 h3 h4 h5 h6 h7 HW hlr hlcc hlcm
      subst hk
      clear hnc hlen
      subst hlvs
      go_wp2
      go_quiet ((go_at_call 77; exact quiet_left (Len_calls _ _ _ _)))
      go_wp2
      go_ret
      exact HE.out _ (drewN_below _ _ _)
    · have h0 : 0 < Lk.length := by omega
      have hww : w.heap.size ≤ wr.heap.size := h6.1.size
      have hlvw : ∀ g, lv.ownBlock = some g → w.heap.size ≤ g := fun g hg => (h1.lt g hg).1
      have HCT : Hid (∀ W, Below wr.heap.size wr W → Calls Try.prog 82 #[.pointer (some ⟨hb, 0, none⟩)] W fun e w' => e = .returned (hdG Lk 0).val ∧ Below W.heap.size W w') := Lib.hid (fun W hW => least_calls (h4.keep (T := []) (Kp.of_below (B := B) hW) (by simp) (by simp)) h0 (by omega))
      have HC3 : Hid (∀ W, Below wr.heap.size wr W → W.cell? ⟨mb, 3, none⟩ = some (.iface 82 (.pointer (some ⟨hb, 0, none⟩)))) := Lib.hid (fun W hW => (World.cell?_of_block (hW.block mb h3.lt)).trans c3)
      have HRW : Hid (∀ W, Below wr.heap.size wr W → W.ownsRow w.heap.size 100 6 lv out.length (encD out)) := Lib.hid (fun W hW => own_belowAll h1 hW)
      have HPW : Hid (∀ (wa wb : World) (g : Nat), Below wr.heap.size wr wa → wa.grownBy wb lv.ownBlock → (lv.ownBlock = some g ∨ wa.heap.size ≤ g) → PileD wb B hb (.slice p n c) Lk ∧ wb.cell? ⟨mb, 3, none⟩ = some (.iface 82 (.pointer (some ⟨hb, 0, none⟩)))) := Lib.hid (fun wa wb g ha hg hgat => by
        have hfr : Fr wr wb [lv.ownBlock] := (Fr.of_below ha _).grown hg (fun k hk _ => by simp [hk])
        refine ⟨⟨(hfr.2.2.2.2 hb h4.lt ?_).trans h4.box, h4.base, hfr.own h4.row (fun k hk hm => ?_)⟩, (World.cell?_of_block (hfr.2.2.2.2 mb h3.lt ?_)).trans c3⟩
        · simp only [List.mem_singleton]
          intro e
          have := hlvw hb e.symm
          omega
        · simp only [List.mem_singleton] at hm
          exact h7 k hm.symm hk
        · simp only [List.mem_singleton]
          intro e
          have := hlvw mb e.symm
          omega)
      have HMore : Hid ((out = [] ∨ eat (hdG Lk 0).e (hdG out 0).e) → ∀ wa wb wc g cap, Below wr.heap.size wr wa → wb.ownsRow w.heap.size 100 6 (.slice (some ⟨g, 0, none⟩) (out.length + 1) cap) (out.length + 1) (encD out ++ (hdG Lk 0).cells) → wa.grownBy wb lv.ownBlock → (lv.ownBlock = some g ∨ wa.heap.size ≤ g) → (∃ v'' L', PileD wc B hb v'' L' ∧ HeapG abv L' ∧ L'.Perm (dropG Lk) ∧ PKeep hb wb (.slice p n c) wc v'') → SameRel w v B mb hb sv fs bottom begun code F (Lk.length) (.slice (some ⟨g, 0, none⟩) (out.length + 1) cap) wc) :=
        Lib.hid (fun hat wa wb wc g cap ha hrow hg hgat hp => SameRel.more hB hww hbw hmw hsvw.out h2 h3 h4 h5 h0 h6 h7 hlvw hat ha hrow hg hgat hp (by omega))
      have HPop : Hid (∀ wb, PileD wb B hb (.slice p n c) Lk → Calls Try.prog 57 #[.iface 82 (.pointer (some ⟨hb, 0, none⟩))] wb (fun e w' => HeapPost wb B hb (.slice p n c) (dropG Lk) (.iface 100 (hdG Lk 0).val) e w')) := Lib.hid (fun wb hb' => HPop_calls (x := default) (T := []) hb' h5 (by omega) h0)
      have HFar : Hid (out ≠ [] → ¬ eat (hdG Lk 0).e (hdG out 0).e → ∀ W, Below wr.heap.size wr W → SamePost w v B mb hb sv fs bottom begun code F (.returned lv) W) := Lib.hid (fun ho he W hW => HW.out W (h2.far h5 h0 ho he) hW)
      have HF8 := Lib.hid h8
      unfold Hdv.val at HCT
      have hgt : decide ((0 : Int) < (n : Int)) = true := by simp; omega
      have hgt2 : decide (0 < n) = true := by simp; omega
      by_cases ho : out.length = 0
      · have ho2 : out = [] := List.eq_nil_of_length_eq_zero ho
        have HMore2 := Lib.hid (HMore.out (.inl ho2))
        have ho3 : ((0 : Int) == 0) = true := rfl
        obtain ⟨x, hx⟩ : ∃ x, hdG Lk 0 = x := ⟨_, rfl⟩
        rw [hx] at HCT HMore2
        have HLK := Lib.hid hnc
        clear h1 h2 h3 h4 h5 h6 h7 HW HFar HMore hx hlr hlcc hlcm h8 hnc h0
        subst ho2
        rw [show ([] : List Hdv).length = 0 from rfl] at *
        subst hlvs
        go_wp2
        go_quiet ((go_at_call 77; exact quiet_left (Len_calls _ _ _ _)))
        obtain ⟨W, hW⟩ : ∃ W, wr.drewN nq = W := ⟨_, rfl⟩
        rw [hW]
        have hB1 : Below wr.heap.size wr W := by rw [← hW]; exact drewN_below _ _ _
        have c3b := HC3.out W hB1
        have HCT2 := Lib.hid (HCT.out W hB1)
        have HB1 := Lib.hid hB1
        have hs0 := hB1.size
        clear c3 p0 hML hW hB1 hgt hgt2 HC3
        go_wp2_with fail
        refine HCT2.out.mono ?_
        rintro e W1 ⟨rfl, hb1⟩
        have hs1 := hb1.size
        have hB2 : Below wr.heap.size wr W1 := HB1.out.trans (hb1.mono HB1.out.size)
        have hB3 := (hB2.alloc hB2.size (.cells #[.int .i64 x.e.v, .string x.e.c, .int .i64 x.e.i, .int .i64 x.e.s, .bool x.e.d, .int .i64 x.n] 100))
        have hva := (HRW.out W1 hB2).alloc (.cells #[.int .i64 x.e.v, .string x.e.c, .int .i64 x.e.i, .int .i64 x.e.s, .bool x.e.d, .int .i64 x.n] 100)
        have hnews := World.news_of_block (cs := #[.int .i64 x.e.v, .string x.e.c, .int .i64 x.e.i, .int .i64 x.e.s, .bool x.e.d, .int .i64 x.n]) (t := 100) (fr := (0, 0)) (heap_alloc_new W1 (.cells #[.int .i64 x.e.v, .string x.e.c, .int .i64 x.e.i, .int .i64 x.e.s, .bool x.e.d, .int .i64 x.n] 100))
        have HB3 := Lib.hid hB3
        clear hb1 hB2 hB3 c3b
        go_wp2_with (at_builtin; refine wpList_append_lies _ rfl _ _ _ rfl w.heap.size 100 i0 _ 6 56 Try.underlying83 hi0 hz0 hz1 hz2 rfl (by omega) (.slice lp 0 lc) 0 ([]) rfl hva ⟨W1.heap.size, 0, none⟩ 1 1 x.cells rfl rfl hnews (by simp [Value.oneCell', Hdv.cells]) (by omega) (by unfold maxLen; omega) (by omega) (by simp; omega) (W1.heap.size + 1) (by simp) ?_)
        intro g cap' w5 hown5 hgrow5 hat5 hlt5
        obtain ⟨hP5, c5⟩ := HPW.out _ _ g HB3.out hgrow5 (hat5.imp id (fun e => by simp; omega))
        have HPC := Lib.hid (HPop.out w5 hP5)
        have HM3 := Lib.hid (fun w6 h => HMore2.out _ w5 w6 g cap' HB3.out hown5 hgrow5 (hat5.imp id (fun e => by simp; omega)) h)
        clear hP5 hown5 hgrow5 hat5 hlt5 hva hnews
        go_wp2_with fail
        refine HPC.out.mono ?_
        rintro e w6 ⟨rfl, hp6⟩
        have HRel := Lib.hid (HM3.out w6 hp6)
        clear hp6 c5
        go_wp2
        go_roundg (Lk.length)
        case measure => have := HF8.out; omega
        case rel => exact HRel.out
      · obtain ⟨lg, hlg, _, hlgl, hlcs, _⟩ := hlr (by omega)
        obtain ⟨m, hm⟩ : ∃ m, out.length = m := ⟨_, rfl⟩
        have hone : out ≠ [] := fun e => ho (by rw [e]; rfl)
        obtain ⟨y, hy⟩ : ∃ y, hdG out 0 = y := ⟨_, rfl⟩
        obtain ⟨x, hx⟩ : ∃ x, hdG Lk 0 = x := ⟨_, rfl⟩
        have hyc : ∀ k, k < 6 → (encD out)[0 * 6 + k]? = y.cells[k]? := encD_get out 0 y (by rw [← hy]; exact hdG_get (by omega))
        simp only [Nat.zero_mul, Nat.zero_add] at hyc
        subst hlg
        have hcy : ∀ k, k < 5 → wr.cell? ⟨lg, k, none⟩ = y.cells[k]? := fun k hk => by rw [hlcs k (by omega)]; exact hyc k (by omega)
        have HKeep : Hid (∀ W, Below wr.heap.size wr W → W.cell? ⟨mb, 3, none⟩ = some (.iface 82 (.pointer (some ⟨hb, 0, none⟩))) ∧ W.cell? ⟨hb, 0, none⟩ = some (.slice p n c) ∧ W.cell? ⟨lg, 0, none⟩ = some (.int .i64 y.e.v) ∧ W.cell? ⟨lg, 1, none⟩ = some (.string y.e.c) ∧ W.cell? ⟨lg, 2, none⟩ = some (.int .i64 y.e.i) ∧ W.cell? ⟨lg, 3, none⟩ = some (.int .i64 y.e.s) ∧ W.cell? ⟨lg, 4, none⟩ = some (.bool y.e.d)) := Lib.hid (fun W hW =>
          ⟨HC3.out W hW, (World.cell?_of_block (hW.block hb h4.lt)).trans p0, (World.cell?_of_block (hW.block lg hlgl)).trans (hcy 0 (by decide)), (World.cell?_of_block (hW.block lg hlgl)).trans (hcy 1 (by decide)), (World.cell?_of_block (hW.block lg hlgl)).trans (hcy 2 (by decide)), (World.cell?_of_block (hW.block lg hlgl)).trans (hcy 3 (by decide)), (World.cell?_of_block (hW.block lg hlgl)).trans (hcy 4 (by decide))⟩)
        obtain ⟨_, _, l0, l1, l2, l3, l4⟩ := HKeep.out wr (Below.refl _ _)
        have hMLW : ∀ W : World, W.cell? ⟨hb, 0, none⟩ = some (.slice p n c) → (method 235 82 (.pointer (some ⟨hb, 0, none⟩)) "Len").run Try.prog W = .ok (77, .slice p n c) W := fun W h => meth2_Len h
        have HCM : Hid (∀ W : World, Calls Try.prog 10 #[x.e.val, y.e.val] W fun e w' => e = .returned (.int .i64 (cmpE x.e y.e)) ∧ Below W.heap.size W w') := Lib.hid (fun W => Compare_calls x.e y.e W)
        have hzero := cmpE_zero (a := x.e) (b := y.e)
        rw [hx] at HCT
        rw [hx, hy] at HFar
        rw [hx, hy, hm] at HMore
        rw [hm] at hlvs HRW h1 hlen ho
        unfold Ent.val at HCM
        generalize cmpE x.e y.e = q at HCM hzero
        have hgn : ((m : Int) == 0) = false := by rw [beq_eq_false_iff_ne]; exact fun e => ho (Int.ofNat_eq_zero.1 e)
        have hm0' : 0 < m := Nat.pos_of_ne_zero ho
        have hfd : ∀ W : World, (Instr.field 100 (.agg #[.int .i64 x.e.v, .string x.e.c, .int .i64 x.e.i, .int .i64 x.e.s, .bool x.e.d, .int .i64 x.n]) 0).run Try.prog W = .ok (.agg #[.int .i64 x.e.v, .string x.e.c, .int .i64 x.e.i, .int .i64 x.e.s, .bool x.e.d]) W := fun W => by kernel_rfl
        have hm0 : (0 : Int) < (m : Int) := Int.natCast_pos.2 (Nat.pos_of_ne_zero ho)
        subst hlvs
        have HLK := Lib.hid hnc
        clear hML h1 h2 h3 h4 h5 h6 h7 HW hlr hlcc hlcm h8 hnc h0 hcy hyc hlcs hx hy hm
        by_cases hq : q = 0
        · have HMore2 := Lib.hid (HMore.out (.inr (hzero.1 hq)))
          subst hq
          clear HMore HFar hzero
          go_wp2
          go_region_held3 (fun W => W.cell? ⟨mb, 3, none⟩ = some (.iface 82 (.pointer (some ⟨hb, 0, none⟩))) ∧ W.cell? ⟨hb, 0, none⟩ = some (.slice p n c) ∧ W.cell? ⟨lg, 0, none⟩ = some (.int .i64 y.e.v) ∧ W.cell? ⟨lg, 1, none⟩ = some (.string y.e.c) ∧ W.cell? ⟨lg, 2, none⟩ = some (.int .i64 y.e.i) ∧ W.cell? ⟨lg, 3, none⟩ = some (.int .i64 y.e.s) ∧ W.cell? ⟨lg, 4, none⟩ = some (.bool y.e.d)) (first | exact ⟨c3, p0, l0, l1, l2, l3, l4⟩ | exact HKeep.out _ (below_of_drew hb1) | exact HKeep.out _ ((below_of_drew hb1).trans (hb2.mono (below_of_drew hb1).size))) (first | (go_at_call 77; refine (Len_calls _ _ _ _).mono ?_; rintro e w2 ⟨rfl, rfl⟩) | (go_at_call 82; refine (HCT.out _ ((Below.refl _ _).drew)).mono ?_; rintro e w2 ⟨rfl, hb1⟩) | (go_at_call 10; refine (HCM.out _).mono ?_; rintro e w3 ⟨rfl, hb2⟩))
          have hB1 : Below wr.heap.size wr w3 := (below_of_drew hb1).trans (hb2.mono (below_of_drew hb1).size)
          obtain ⟨W, rfl⟩ : ∃ W : World, W = w3 := ⟨_, rfl⟩
          have c3b := HC3.out W hB1
          have HCT2 := Lib.hid (HCT.out W hB1)
          have HB1 := Lib.hid hB1
          have hs0 := hB1.size
          clear c3 p0 hMLW hB1 hgt hgt2 HC3 HKeep l0 l1 l2 l3 l4 hb1 hb2 hfd HCM HCT
          go_wp2_with fail
          refine HCT2.out.mono ?_
          rintro e W1 ⟨rfl, hb1⟩
          have hs1 := hb1.size
          have hB2 : Below wr.heap.size wr W1 := HB1.out.trans (hb1.mono HB1.out.size)
          have hB3 := (hB2.alloc hB2.size (.cells #[.int .i64 x.e.v, .string x.e.c, .int .i64 x.e.i, .int .i64 x.e.s, .bool x.e.d, .int .i64 x.n] 100))
          have hva := (HRW.out W1 hB2).alloc (.cells #[.int .i64 x.e.v, .string x.e.c, .int .i64 x.e.i, .int .i64 x.e.s, .bool x.e.d, .int .i64 x.n] 100)
          have hnews := World.news_of_block (cs := #[.int .i64 x.e.v, .string x.e.c, .int .i64 x.e.i, .int .i64 x.e.s, .bool x.e.d, .int .i64 x.n]) (t := 100) (fr := (0, 0)) (heap_alloc_new W1 (.cells #[.int .i64 x.e.v, .string x.e.c, .int .i64 x.e.i, .int .i64 x.e.s, .bool x.e.d, .int .i64 x.n] 100))
          have HB3 := Lib.hid hB3
          clear hb1 hB2 hB3 c3b
          go_wp2_with (at_builtin; refine wpList_append_lies _ rfl _ _ _ rfl w.heap.size 100 i0 _ 6 56 Try.underlying83 hi0 hz0 hz1 hz2 rfl (by omega) (.slice (some ⟨lg, 0, none⟩) m lc) m (encD out) rfl hva ⟨W1.heap.size, 0, none⟩ 1 1 x.cells rfl rfl hnews (by simp [Value.oneCell', Hdv.cells]) (by omega) (by unfold maxLen; omega) (by omega) (by simp; omega) (W1.heap.size + 1) (by simp) ?_)
          intro g cap' w5 hown5 hgrow5 hat5 hlt5
          obtain ⟨hP5, c5⟩ := HPW.out _ _ g HB3.out hgrow5 (hat5.imp id (fun e => by simp; omega))
          have HPC := Lib.hid (HPop.out w5 hP5)
          have HM3 := Lib.hid (fun w6 h => HMore2.out _ w5 w6 g cap' HB3.out hown5 hgrow5 (hat5.imp id (fun e => by simp; omega)) h)
          clear hP5 hown5 hgrow5 hat5 hlt5 hva hnews
          go_wp2_with fail
          refine HPC.out.mono ?_
          rintro e w6 ⟨rfl, hp6⟩
          have HRel := Lib.hid (HM3.out w6 hp6)
          clear hp6 c5
          go_wp2
          go_roundg (Lk.length)
          case measure => have := HF8.out; omega
          case rel => exact HRel.out
        · have HFar2 := Lib.hid (HFar.out hone (fun h => hq (hzero.2 h)))
          have hqn : (q == 0) = false := by rw [beq_eq_false_iff_ne]; exact hq
          clear HMore HFar hzero
          go_wp2
          go_region_held3 (fun W => W.cell? ⟨mb, 3, none⟩ = some (.iface 82 (.pointer (some ⟨hb, 0, none⟩))) ∧ W.cell? ⟨hb, 0, none⟩ = some (.slice p n c) ∧ W.cell? ⟨lg, 0, none⟩ = some (.int .i64 y.e.v) ∧ W.cell? ⟨lg, 1, none⟩ = some (.string y.e.c) ∧ W.cell? ⟨lg, 2, none⟩ = some (.int .i64 y.e.i) ∧ W.cell? ⟨lg, 3, none⟩ = some (.int .i64 y.e.s) ∧ W.cell? ⟨lg, 4, none⟩ = some (.bool y.e.d)) (first | exact ⟨c3, p0, l0, l1, l2, l3, l4⟩ | exact HKeep.out _ (below_of_drew hb1) | exact HKeep.out _ ((below_of_drew hb1).trans (hb2.mono (below_of_drew hb1).size))) (first | (go_at_call 77; refine (Len_calls _ _ _ _).mono ?_; rintro e w2 ⟨rfl, rfl⟩) | (go_at_call 82; refine (HCT.out _ ((Below.refl _ _).drew)).mono ?_; rintro e w2 ⟨rfl, hb1⟩) | (go_at_call 10; refine (HCM.out _).mono ?_; rintro e w3 ⟨rfl, hb2⟩))
          have HB1 : Hid (Below wr.heap.size wr w3) := Lib.hid ((below_of_drew hb1).trans (hb2.mono (below_of_drew hb1).size))
          clear hb1 hb2
          go_wp2
          go_ret
          exact HFar2.out _ HB1.out
end Go.Proofs.Ytahdaccmokjgpaa

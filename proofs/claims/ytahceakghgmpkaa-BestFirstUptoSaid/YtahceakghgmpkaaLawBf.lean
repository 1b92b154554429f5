/-
  THE LAW BestFirst, walked: the first k of lists, five times asked of a twin that is written over meanwhile. (Printed by firstgen.py.)
-/
import Derived.Test.YtahceakghgmpkaaCopyD
import Derived.Test.YtahceakghgmpkaaApartB
namespace Go.Proofs.Ytahceakghgmpkaa
open Go.RowKit ArgK
set_option linter.unusedVariables false

theorem sameH {p1 p2 : Option Addr} {c1 c2 n : Nat} {T : List Hv} (hn : T.length = n) (hb : n ≤ 4096) (w : World) (h1 : HL w p1 T) (h2 : HL w p2 T) :
    Calls Try.prog 20 #[.slice p1 n c1, .slice p2 n c2] w fun x w' => x = .returned (.bool true) ∧ Gr w w' := by
  subst hn
  exact same_calls p1 p2 c1 c2 T (by omega) w h1 h2

theorem CopRel.frp {w w4 wr ws : World} {N1 m : Nat} {twin : Value} {LT : Nat → Value} {now : List (List Hv)} {x y : Nat} (h : CopRel w wr N1 m twin LT now x y ws) (hf : FrP w4 wr (TwB w.heap.size N1)) : FrP w4 ws (TwB w.heap.size N1) := by
  obtain ⟨yy, _, _, hF⟩ := h
  exact hf.trans hF (fun _ hb => .inl hb)

theorem CopRel.gr {w wr ws ws' : World} {N1 m : Nat} {twin : Value} {LT : Nat → Value} {now : List (List Hv)} {x y : Nat} (h : CopRel w wr N1 m twin LT now x y ws) (hg : Gr ws ws') : CopRel w wr N1 m twin LT now x y ws' := by
  obtain ⟨yy, hc, hT, hF⟩ := h
  exact ⟨yy, hc, hT.below hg.below, hF.trans_gr hg⟩

/-- What stands in the twin ahead of round k. -/
def curZ (zz : List (List Hv)) (k : Nat) : List (List Hv) := if k = 3 ∨ k = 4 then movedOf zz else zz

theorem curZ_cop (zz now : List (List Hv)) (k : Nat) (h : now = zz ∨ now = movedOf zz) : (curZ zz k).length = now.length ∧ ∀ j, ((curZ zz k).getD j []).length = (now.getD j []).length := by
  have e1 : ∀ y, y = zz ∨ y = movedOf zz → y.length = zz.length ∧ ∀ j, (y.getD j []).length = (zz.getD j []).length := fun y hy => by
    rcases hy with rfl | rfl
    · exact ⟨rfl, fun _ => rfl⟩
    · exact ⟨movedOf_length zz, fun j => by rw [movedOf_getD, movedZ_length]⟩
  have e2 := e1 now h
  have e3 := e1 (curZ zz k) (by unfold curZ; split <;> simp)
  exact ⟨by rw [e2.1, e3.1], fun j => by rw [e2.2, e3.2]⟩

/-- The twin's blocks. -/
def TwG (B N m gT : Nat) (LT : Nat → Value) : Prop := (∀ j, j < m + 64 → ∀ g, (LT j).ownBlock = some g → TwB B N g) ∧ TwB B N gT

theorem TwIs.keepB {ws ws' : World} {B N m B' gT capT : Nat} {zz : List (List Hv)} {LT : Nat → Value} (h : TwIs ws B (m + 64) zz (.slice (some ⟨gT, 0, none⟩) (m + 64) capT) LT) (hG : TwG B N m gT LT) (hN : N ≤ B') (hb : Below B' ws ws') : TwIs ws' B (m + 64) zz (.slice (some ⟨gT, 0, none⟩) (m + 64) capT) LT :=
  ⟨own_below h.1 hb (fun g hg => by have h1 := hG.2.2; have h2 : gT = g := Option.some.inj hg; omega), fun j hj => own_below (h.2.1 j hj) hb (fun g hg => by have := (hG.1 j hj g hg).2; omega), h.2.2⟩

theorem FrP.behind {a b c : World} {B N : Nat} (h : FrP a b (TwB B N)) (k : Below a.heap.size b c) : FrP a c (TwB B N) :=
  h.trans (G := fun x => a.heap.size ≤ x) ⟨k.os, k.tape, k.output, k.size, fun x hx hn => k.block x (by omega)⟩ (fun x hx => .inr hx)

/-- What the loops read: all that lies there but the twin. -/
def Env (p po pb pc : Option Addr) (zz : List (List Hv)) (T O : List Hv) (ws : World) : Prop := HLL ws p zz ∧ HLL ws po (movedOf zz) ∧ HL ws pb T ∧ HL ws pc O

theorem Env.gr {p po pb pc : Option Addr} {zz : List (List Hv)} {T O : List Hv} {ws ws' : World} (h : Env p po pb pc zz T O ws) (hg : Gr ws ws') : Env p po pb pc zz T O ws' := ⟨h.1.gr hg, h.2.1.gr hg, h.2.2.1.gr hg, h.2.2.2.gr hg⟩

theorem Env.below {p po pb pc : Option Addr} {zz : List (List Hv)} {T O : List Hv} {ws ws' : World} (h : Env p po pb pc zz T O ws) (hg : Below ws.heap.size ws ws') : Env p po pb pc zz T O ws' := ⟨h.1.below hg, h.2.1.below hg, h.2.2.1.below hg, h.2.2.2.below hg⟩

theorem env_made {w w1 w2 w3 w4 : World} {p po pb pc : Option Addr} {co cb cc m N1 N2 : Nat} {zz : List (List Hv)} {T O : List Hv} {Lo : Nat → Value} (hm : zz.length = m) (hL : HLL w p zz) (hb1 : Below w.heap.size w w1) (hb2 : Below w1.heap.size w1 w2) (hb3 : Below w2.heap.size w2 w3) (hb4 : Below w3.heap.size w3 w4)
    (hLo : Lists w2 w1.heap.size 23 34 3 m (.slice po m co) Lo (fun j => (zz.getD j []).length) (fun j => encH (movedZ j (zz.getD j []))))
    (hr : w3.ownsRow w2.heap.size 34 3 (.slice pb N1 cb) N1 (encH T)) (hs : w4.ownsRow w3.heap.size 34 3 (.slice pc N2 cc) N2 (encH O)) :
    ∀ ws, FrP w4 ws (TwB w.heap.size w1.heap.size) → Env p po pb pc zz T O ws := by
  intro ws hf
  have s1 := hb1.size
  have s2 := hb2.size
  have s3 := hb3.size
  have s4 := hb4.size
  have hbw : Below w.heap.size w4 ws := hf.below (by omega) (fun b hb => hb.1)
  have hb := (((hb1.trans (hb2.mono s1)).trans (hb3.mono (by omega))).trans (hb4.mono (by omega))).trans hbw
  have hl4 := ((hLo.below hb3).below hb4).frp hf (Nat.le_refl _)
  obtain ⟨po', co', e, hO⟩ := moved_hll hm hl4
  cases e
  refine ⟨hL.below hb, hO, HL.of_own (own_frpF (own_belowAll hr hb4) hf (fun g hg k => ?_)), HL.of_own (own_frpF hs hf (fun g hg k => ?_))⟩
  · have := (hr.lt g hg).1
    have := k.2
    omega
  · have := (hs.lt g hg).1
    have := k.2
    omega

set_option maxRecDepth 100000 in
set_option maxHeartbeats 8000000 in
theorem BestFirst_gen (k : Int) (ec : Int) (T O : List Hv) (hTl : T.length ≤ 4096) (hOl : O.length ≤ 4096) (p : Option Addr) (cap : Nat) (zz : List (List Hv)) (hfb : zz.flatten.length + zz.length ≤ 1048576) (w : World) (hLL : HLL w p zz)
    (hB1 : ∀ W p c, HLL W p zz → Calls Try.prog 32 #[.int .i64 k, .slice p zz.length c] W (FirstE W T ec))
    (hB2 : ∀ W p c, HLL W p (movedOf zz) → Calls Try.prog 32 #[.int .i64 k, .slice p zz.length c] W (FirstE W O ec))
    (hR1 : ∀ W p c, HLL W p zz → Calls Try.prog 31 #[.int .i64 k, .slice p zz.length c] W (FirstE W T ec))
    (hR2 : ∀ W p c, HLL W p (movedOf zz) → Calls Try.prog 31 #[.int .i64 k, .slice p zz.length c] W (FirstE W O ec)) :
    Calls Try.prog 8 #[.int .i64 k, .slice p zz.length cap] w fun e w' => e = .returned (.bool true) ∧ Below w.heap.size w w' := by
  obtain ⟨i1, hj, hy0, hy1, hy2⟩ := info_parts hitsinfo
  have hK1 := fun gT capT B L W h1 h2 => kept_calls gT capT p cap B zz L hfb W h1 h2
  have hK2 := fun gT capT po co B L W h1 h2 => kept_calls gT capT po co B (movedOf zz) L (by rw [movedOf_flat, movedOf_length]; exact hfb) W h1 h2
  rw [movedOf_length] at hK2
  have hTw := twins_calls p cap zz hfb w hLL
  have hMv := fun W h => moved_calls p cap zz hfb W h
  have hzn : ∀ b, (zz.getD b []).length ≤ 1048576 := fun b => by
    by_cases hb : b < zz.length
    · have h2 := flat_take_le zz (b + 1)
      rw [flat_snoc (List.getElem?_eq_getElem hb), List.length_append] at h2
      rw [List.getD_eq_getElem?_getD, List.getElem?_eq_getElem hb]
      show (zz[b]).length ≤ 1048576
      omega
    · rw [List.getD_eq_getElem?_getD, List.getElem?_eq_none (by omega)]; exact Nat.zero_le _
  obtain ⟨m, hm⟩ : ∃ m, zz.length = m := ⟨_, rfl⟩
  obtain ⟨N1, hN1⟩ : ∃ n, T.length = n := ⟨_, rfl⟩
  obtain ⟨N2, hN2⟩ : ∃ n, O.length = n := ⟨_, rfl⟩
  rw [hm] at hB1 hB2 hR1 hR2 hK1 hK2 hTw hMv hfb ⊢
  rw [hN1] at hTl
  rw [hN2] at hOl
  have HM := Lib.hid hm
  have HN1 := Lib.hid hN1
  have HN2 := Lib.hid hN2
  have HB1 := Lib.hid hB1
  have HB2 := Lib.hid hB2
  have HR1 := Lib.hid hR1
  have HR2 := Lib.hid hR2
  have HK1 := Lib.hid hK1
  have HK2 := Lib.hid hK2
  have HTw := Lib.hid hTw
  have HMv := Lib.hid hMv
  have HLL0 := Lib.hid hLL
  have HZn := Lib.hid hzn
  have HMo : Hid ((movedOf zz).length = m) := Lib.hid (by rw [movedOf_length]; exact hm)
  have hm1 : m ≤ 1048576 := by omega
  have hec : (ec != ec) = false := by simp
  clear hm hN1 hN2 hB1 hB2 hR1 hR2 hK1 hK2 hTw hMv hLL hzn hfb
  go_enter Try.func8, Try.ntmps8
  go_wp2_with fail
  refine HTw.out.mono ?_
  rintro e w1 ⟨gT, capT, LT, rfl, hb1, hT1⟩
  have HBa := Lib.hid hb1
  have HT1 := Lib.hid hT1
  have HCT : Hid (m + 64 ≤ capT) := Lib.hid (by obtain ⟨_, _, e, hc1, _, _⟩ := own_rd hT1.1; cases e; exact hc1)
  clear hb1 hT1
  go_wp2_with fail
  refine (HMv.out w1 (HLL0.out.below HBa.out)).mono ?_
  rintro e w2 ⟨lo, Lo, rfl, hb2, hLo⟩
  obtain ⟨po, co, rfl, hOl2⟩ := moved_hll HM.out hLo
  have HBb := Lib.hid hb2
  have HLo := Lib.hid hLo
  have HOl := Lib.hid hOl2
  clear hb2 hLo hOl2
  go_wp2_with fail
  refine (HR1.out w2 p cap ((HLL0.out.below HBa.out).below HBb.out)).mono ?_
  rintro e w3 ⟨vb, rfl, hrb, hb3⟩
  rw [HN1.out] at hrb
  obtain ⟨pb, cb, rfl, _⟩ := own_rd hrb
  have HBc := Lib.hid hb3
  have HRb := Lib.hid hrb
  clear hb3 hrb
  go_wp2_with fail
  refine (HR2.out w3 po co (HOl.out.below HBc.out)).mono ?_
  rintro e w4 ⟨vc, rfl, hrc, hb4⟩
  rw [HN2.out] at hrc
  obtain ⟨pc, cc, rfl, _⟩ := own_rd hrc
  have HE : Hid (∀ ws, FrP w4 ws (TwB w.heap.size w1.heap.size) → Env p po pb pc zz T O ws) := Lib.hid (env_made HM.out HLL0.out HBa.out HBb.out HBc.out hb4 HLo.out HRb.out hrc)
  have HT4 : Hid (TwIs w4 w.heap.size (m + 64) zz (.slice (some ⟨gT, 0, none⟩) (m + 64) capT) LT) := Lib.hid (((HT1.out.below HBb.out).below HBc.out).below hb4)
  have HG : Hid (TwG w.heap.size w1.heap.size m gT LT) := Lib.hid ⟨fun j hj g hg => (HT1.out.2.1 j hj).lt g hg, HT1.out.1.lt gT rfl⟩
  have HBw4 : Hid (Below w.heap.size w w4 ∧ w.heap.size ≤ w1.heap.size ∧ w1.heap.size ≤ w4.heap.size) := Lib.hid (by
    have s1 := HBa.out.size
    have s2 := HBb.out.size
    have s3 := HBc.out.size
    have s4 := hb4.size
    exact ⟨((HBa.out.trans (HBb.out.mono s1)).trans (HBc.out.mono (by omega))).trans (hb4.mono (by omega)), s1, by omega⟩)
  have hs14 := HBw4.out.2.2
  have hs01 := HBw4.out.2.1
  clear hrc hb4 HLo HRb HOl HBa HBb HBc HTw HMv HT1 HLL0 HR1 HR2
  obtain ⟨Nw, hNw⟩ : ∃ n, w1.heap.size = n := ⟨_, rfl⟩
  obtain ⟨B, hBe⟩ : ∃ n, w4.heap.size = n := ⟨_, rfl⟩
  rw [hNw] at HE HG hs14 hs01
  rw [hBe] at hs14
  have HBS := Lib.hid hBe
  clear hNw hBe
  go_wp2
  go_loopw [11, 12] (fun l i ws => ∃ (k : Nat) (L : Nat → Value) (lv : Value), k ≤ 5 ∧ i = .int .i64 k ∧ lv = l ∧ FrP w4 ws (TwB w.heap.size Nw) ∧ Hid (TwIs ws w.heap.size (m + 64) (curZ zz k) (.slice (some ⟨gT, 0, none⟩) (m + 64) capT) LT) ∧ Hid (Lists ws B 23 34 3 k l L (q4 N1 N2) (q4 (encH T) (encH O)))) (fun _ i _ => 5 - (intOf i).toNat)
  case atStart => exact ⟨0, fun _ => undef, _, by omega, rfl, rfl, FrP.refl _ _, HT4, Lib.hid (Lists.none_ _ _ _ _ _ _ _ _)⟩
  case round =>
    obtain ⟨k5, L, lv, hk, rfl, rfl, hFr, HTk, HH⟩ := hrel
    obtain ⟨wo, rfl⟩ : ∃ wo : World, wo = wr := ⟨_, rfl⟩
    have hsz : B ≤ wo.heap.size := by rw [← HBS.out]; exact hFr.2.2.2.1
    have HFr := Lib.hid hFr
    clear hFr
    by_cases hlt : k5 < 5
    · by_cases hq : k5 = 2 ∨ k5 = 3
      · rcases hq with rfl | rfl
        · have HQ : True := trivial
          have HC0 : Hid (CopRel w wo Nw m (.slice (some ⟨gT, 0, none⟩) (m + 64) capT) LT (movedOf zz) 0 0 wo) := Lib.hid ⟨_, Cop.start (curZ_cop zz (movedOf zz) 2 (.inr rfl)).1 (curZ_cop zz (movedOf zz) 2 (.inr rfl)).2, HTk.out, FrP.refl _ _⟩
          go_wp2
          go_loopw [15] (fun i ws => ∃ x : Nat, x ≤ m ∧ i = .int .i64 x ∧ CopRel w wo Nw m (.slice (some ⟨gT, 0, none⟩) (m + 64) capT) LT (movedOf zz) x 0 ws) (fun i _ => m - (intOf i).toNat)
          case atStart => exact ⟨0, Nat.zero_le _, rfl, HC0.out⟩
          case round =>
            obtain ⟨x, hx, rfl, hC⟩ := hrel
            obtain ⟨wx, rfl⟩ : ∃ wo : World, wo = wr := ⟨_, rfl⟩
            by_cases hxt : x < m
            · have hxl : x < (movedOf zz).length := by rw [HMo.out]; exact hxt
              have HXz : Hid ((movedOf zz)[x]? = some ((movedOf zz).getD x [])) := Lib.hid (by rw [List.getD_eq_getElem?_getD, List.getElem?_eq_getElem hxl]; rfl)
              obtain ⟨n, hn⟩ : ∃ n, ((movedOf zz).getD x []).length = n := ⟨_, rfl⟩
              have HXn := Lib.hid hn
              have hn1 : n ≤ 1048576 := by rw [← HXn.out, movedOf_getD, movedZ_length]; exact HZn.out x
              have HCx := Lib.hid hC
              have x0 : (0 : Int) ≤ (x : Int) := by omega
              have x1 : (x : Int) < (m : Int) := by omega
              clear hC hn hxl
              go_wp2
              go_loopw [16] (fun i ws => ∃ y : Nat, y ≤ n ∧ i = .int .i64 y ∧ CopRel w wo Nw m (.slice (some ⟨gT, 0, none⟩) (m + 64) capT) LT (movedOf zz) x y ws) (fun i _ => n - (intOf i).toNat)
              case atStart => exact ⟨0, Nat.zero_le _, rfl, HCx.out⟩
              case round =>
                obtain ⟨y, hy, rfl, hC⟩ := hrel
                obtain ⟨wi, rfl⟩ : ∃ wo : World, wo = wr := ⟨_, rfl⟩
                obtain ⟨g, cg, ht, hL, hfz⟩ := hC.row HMo.out hxt
                have HCi := Lib.hid hC
                have HLx := Lib.hid hL
                rw [HXn.out] at ht
                by_cases hyt : y < n
                · have hyl : y < ((movedOf zz).getD x []).length := by rw [HXn.out]; exact hyt
                  obtain ⟨u0, u1, u2, t0, t1, t2⟩ := hC.cells HMo.out hxt hyl hL
                  obtain ⟨pa, q, c, hpa, hu, hq, _⟩ := (HE.out wi (hC.frp HFr.out)).2.1 x _ HXz.out
                  obtain rfl := hpa
                  rw [HXn.out] at hu
                  obtain ⟨pd, hpd, v0, v1, v2⟩ := hq y _ (hd_get hyl)
                  obtain rfl := hpd
                  have y0 : (0 : Int) ≤ (y : Int) := by omega
                  have y1 : (y : Int) < (n : Int) := by omega
                  have f0 := hfz (y * 3)
                  have f1 := hfz (y * 3 + 1)
                  have f2 := hfz (y * 3 + 2)
                  have HS := Lib.hid (hC.store HMo.out hxt hyl hL (HG.out.1 x (by omega) g (by rw [hL]; rfl)))
                  clear hC hL hfz hyl hq
                  go_wp2_with fail
                  go_region
                  go_wp2
                  go_roundw
                  case rel => exact ⟨y + 1, by omega, by go_num, HS.out.gr (Gr.refl _).drew⟩
                  case measure => simp [intOf]; omega
                · obtain rfl : y = n := by omega
                  have hC2 := HCi.out
                  rw [← HXn.out] at hC2
                  have HS := Lib.hid hC2.next
                  clear hC hL hfz hC2
                  go_wp2
                  go_roundw
                  case rel => exact ⟨x + 1, by omega, by go_num, HS.out⟩
                  case measure => simp [intOf]; omega
            · obtain rfl : x = m := by omega
              obtain ⟨hTn, hFn⟩ := hC.all HMo.out
              have HFn : Hid (FrP w4 wx (TwB w.heap.size Nw)) := Lib.hid (hC.frp HFr.out)
              have HLn := Lib.hid (HH.out.frp hFn hs14)
              have hszx : B ≤ wx.heap.size := Nat.le_trans hsz hFn.2.2.2.1
              have HTn := Lib.hid hTn
              have HEn := Lib.hid (HE.out wx HFn.out)
              have hhl := Lib.hid (hTn.hll (by rw [HMo.out]; omega))
              clear hTn hFn hC HC0 HTk HH
              go_wp2_with fail
              refine (HB2.out wx (some ⟨gT, 0, none⟩) capT hhl.out).mono ?_
              rintro e y1 ⟨va, rfl, hra, hb1⟩
              rw [HN2.out] at hra
              obtain ⟨pa, ca, rfl, _⟩ := own_rd hra
              have HRa := Lib.hid hra
              have HBa := Lib.hid hb1
              clear hra hb1 hhl
              go_wp2_with fail
              refine (sameH HN2.out (by omega) y1 (HL.of_own HRa.out) (HEn.out.below HBa.out).2.2.2).mono ?_
              rintro e y2 ⟨rfl, hg2⟩
              have HG2 := Lib.hid hg2
              clear hg2
              go_wp2_with fail
              refine (HK2.out gT capT po co _ LT y2 ((HTn.out.below HBa.out).below HG2.out.below) ((HEn.out.below HBa.out).gr HG2.out).2.1).mono ?_
              rintro e y3 ⟨rfl, hg3⟩
              have HB3 : Hid (Below wx.heap.size wx y3) := Lib.hid (HBa.out.trans ((HG2.out.trans hg3).below.mono HBa.out.size))
              have HR3 : Hid (y3.ownsRow B 34 3 (.slice pa N2 ca) N2 (encH O)) := Lib.hid (own_le (own_belowAll HRa.out (HG2.out.trans hg3).below) hszx)
              have HL3 := Lib.hid (HLn.out.below HB3.out)
              have hnew := HLn.out.fresh (va := .slice pa N2 ca) (H := wx.heap.size) (Nat.le_refl _) (fun b hb => (HRa.out.lt b hb).1)
              have HNw := Lib.hid hnew
              have hsz3 : B ≤ y3.heap.size := Nat.le_trans hszx HB3.out.size
              have hlr := HL3.out.1
              clear hg3 hnew HG2 HBa HRa
              go_wp2_with (at_builtin; refine wpList_append_two _ rfl _ _ 50 rfl B 23 i1 (.slice none 0 0) 1 24 Try.underlying50 hj hy0 hy1 hy2 rfl (by decide) lv 2 _ rfl (hlr.alloc _) ⟨y3.heap.size, 0, none⟩ 1 1 [.slice pa N2 ca] rfl rfl (World.news_of_block (heap_alloc_new y3 _)) (by simp [Value.oneCell']) (by decide) (by unfold maxLen; omega) (by omega) (by simp; omega) ?_; intro g' capn y4 hown' hold hlies hlt2)
              have hln := Lists.step HL3.out (by rw [q4_y _ _ (by decide), q4_y _ _ (by decide)]; exact HR3.out) HNw.out (by decide) _ hown' hlies
              have hbn : Below B y3 y4 := hlies.below ((Below.refl B y3).alloc (by omega) _) (by simp; omega) (fun b hb => (hlr.lt b hb).1)
              have HLN := Lib.hid hln
              have HTN : Hid (TwIs y4 w.heap.size (x + 64) (curZ zz (2 + 1)) (.slice (some ⟨gT, 0, none⟩) (x + 64) capT) LT) := Lib.hid (by
                rw [show curZ zz (2 + 1) = (movedOf zz) from by unfold curZ; simp]
                exact (HTn.out.below HB3.out).keepB HG.out hs14 hbn)
              have HFN : Hid (FrP w4 y4 (TwB w.heap.size Nw)) := Lib.hid (by
                refine (HFn.out.behind ?_).behind (by rw [HBS.out]; exact hbn)
                rw [HBS.out]; exact HB3.out.mono hszx)
              clear hln hbn hown' hold hlies hlt2 hlr
              go_wp2
              go_roundw
              case rel => exact ⟨2 + 1, _, _, by omega, by go_num, rfl, HFN.out, HTN, HLN⟩
              case measure => simp [intOf]
        · have HQ : True := trivial
          have HC0 : Hid (CopRel w wo Nw m (.slice (some ⟨gT, 0, none⟩) (m + 64) capT) LT (movedOf zz) 0 0 wo) := Lib.hid ⟨_, Cop.start (curZ_cop zz (movedOf zz) 3 (.inr rfl)).1 (curZ_cop zz (movedOf zz) 3 (.inr rfl)).2, HTk.out, FrP.refl _ _⟩
          go_wp2
          go_loopw [15] (fun i ws => ∃ x : Nat, x ≤ m ∧ i = .int .i64 x ∧ CopRel w wo Nw m (.slice (some ⟨gT, 0, none⟩) (m + 64) capT) LT (movedOf zz) x 0 ws) (fun i _ => m - (intOf i).toNat)
          case atStart => exact ⟨0, Nat.zero_le _, rfl, HC0.out⟩
          case round =>
            obtain ⟨x, hx, rfl, hC⟩ := hrel
            obtain ⟨wx, rfl⟩ : ∃ wo : World, wo = wr := ⟨_, rfl⟩
            by_cases hxt : x < m
            · have hxl : x < (movedOf zz).length := by rw [HMo.out]; exact hxt
              have HXz : Hid ((movedOf zz)[x]? = some ((movedOf zz).getD x [])) := Lib.hid (by rw [List.getD_eq_getElem?_getD, List.getElem?_eq_getElem hxl]; rfl)
              obtain ⟨n, hn⟩ : ∃ n, ((movedOf zz).getD x []).length = n := ⟨_, rfl⟩
              have HXn := Lib.hid hn
              have hn1 : n ≤ 1048576 := by rw [← HXn.out, movedOf_getD, movedZ_length]; exact HZn.out x
              have HCx := Lib.hid hC
              have x0 : (0 : Int) ≤ (x : Int) := by omega
              have x1 : (x : Int) < (m : Int) := by omega
              clear hC hn hxl
              go_wp2
              go_loopw [16] (fun i ws => ∃ y : Nat, y ≤ n ∧ i = .int .i64 y ∧ CopRel w wo Nw m (.slice (some ⟨gT, 0, none⟩) (m + 64) capT) LT (movedOf zz) x y ws) (fun i _ => n - (intOf i).toNat)
              case atStart => exact ⟨0, Nat.zero_le _, rfl, HCx.out⟩
              case round =>
                obtain ⟨y, hy, rfl, hC⟩ := hrel
                obtain ⟨wi, rfl⟩ : ∃ wo : World, wo = wr := ⟨_, rfl⟩
                obtain ⟨g, cg, ht, hL, hfz⟩ := hC.row HMo.out hxt
                have HCi := Lib.hid hC
                have HLx := Lib.hid hL
                rw [HXn.out] at ht
                by_cases hyt : y < n
                · have hyl : y < ((movedOf zz).getD x []).length := by rw [HXn.out]; exact hyt
                  obtain ⟨u0, u1, u2, t0, t1, t2⟩ := hC.cells HMo.out hxt hyl hL
                  obtain ⟨pa, q, c, hpa, hu, hq, _⟩ := (HE.out wi (hC.frp HFr.out)).2.1 x _ HXz.out
                  obtain rfl := hpa
                  rw [HXn.out] at hu
                  obtain ⟨pd, hpd, v0, v1, v2⟩ := hq y _ (hd_get hyl)
                  obtain rfl := hpd
                  have y0 : (0 : Int) ≤ (y : Int) := by omega
                  have y1 : (y : Int) < (n : Int) := by omega
                  have f0 := hfz (y * 3)
                  have f1 := hfz (y * 3 + 1)
                  have f2 := hfz (y * 3 + 2)
                  have HS := Lib.hid (hC.store HMo.out hxt hyl hL (HG.out.1 x (by omega) g (by rw [hL]; rfl)))
                  clear hC hL hfz hyl hq
                  go_wp2_with fail
                  go_region
                  go_wp2
                  go_roundw
                  case rel => exact ⟨y + 1, by omega, by go_num, HS.out.gr (Gr.refl _).drew⟩
                  case measure => simp [intOf]; omega
                · obtain rfl : y = n := by omega
                  have hC2 := HCi.out
                  rw [← HXn.out] at hC2
                  have HS := Lib.hid hC2.next
                  clear hC hL hfz hC2
                  go_wp2
                  go_roundw
                  case rel => exact ⟨x + 1, by omega, by go_num, HS.out⟩
                  case measure => simp [intOf]; omega
            · obtain rfl : x = m := by omega
              obtain ⟨hTn, hFn⟩ := hC.all HMo.out
              have HFn : Hid (FrP w4 wx (TwB w.heap.size Nw)) := Lib.hid (hC.frp HFr.out)
              have HLn := Lib.hid (HH.out.frp hFn hs14)
              have hszx : B ≤ wx.heap.size := Nat.le_trans hsz hFn.2.2.2.1
              have HTn := Lib.hid hTn
              have HEn := Lib.hid (HE.out wx HFn.out)
              have hhl := Lib.hid (hTn.hll (by rw [HMo.out]; omega))
              clear hTn hFn hC HC0 HTk HH
              go_wp2_with fail
              refine (HB2.out wx (some ⟨gT, 0, none⟩) capT hhl.out).mono ?_
              rintro e y1 ⟨va, rfl, hra, hb1⟩
              rw [HN2.out] at hra
              obtain ⟨pa, ca, rfl, _⟩ := own_rd hra
              have HRa := Lib.hid hra
              have HBa := Lib.hid hb1
              clear hra hb1 hhl
              go_wp2_with fail
              refine (sameH HN2.out (by omega) y1 (HL.of_own HRa.out) (HEn.out.below HBa.out).2.2.2).mono ?_
              rintro e y2 ⟨rfl, hg2⟩
              have HG2 := Lib.hid hg2
              clear hg2
              go_wp2_with fail
              refine (HK2.out gT capT po co _ LT y2 ((HTn.out.below HBa.out).below HG2.out.below) ((HEn.out.below HBa.out).gr HG2.out).2.1).mono ?_
              rintro e y3 ⟨rfl, hg3⟩
              have HB3 : Hid (Below wx.heap.size wx y3) := Lib.hid (HBa.out.trans ((HG2.out.trans hg3).below.mono HBa.out.size))
              have HR3 : Hid (y3.ownsRow B 34 3 (.slice pa N2 ca) N2 (encH O)) := Lib.hid (own_le (own_belowAll HRa.out (HG2.out.trans hg3).below) hszx)
              have HL3 := Lib.hid (HLn.out.below HB3.out)
              have hnew := HLn.out.fresh (va := .slice pa N2 ca) (H := wx.heap.size) (Nat.le_refl _) (fun b hb => (HRa.out.lt b hb).1)
              have HNw := Lib.hid hnew
              have hsz3 : B ≤ y3.heap.size := Nat.le_trans hszx HB3.out.size
              have hlr := HL3.out.1
              clear hg3 hnew HG2 HBa HRa
              go_wp2_with (at_builtin; refine wpList_append_two _ rfl _ _ 50 rfl B 23 i1 (.slice none 0 0) 1 24 Try.underlying50 hj hy0 hy1 hy2 rfl (by decide) lv 3 _ rfl (hlr.alloc _) ⟨y3.heap.size, 0, none⟩ 1 1 [.slice pa N2 ca] rfl rfl (World.news_of_block (heap_alloc_new y3 _)) (by simp [Value.oneCell']) (by decide) (by unfold maxLen; omega) (by omega) (by simp; omega) ?_; intro g' capn y4 hown' hold hlies hlt2)
              have hln := Lists.step HL3.out (by rw [q4_y _ _ (by decide), q4_y _ _ (by decide)]; exact HR3.out) HNw.out (by decide) _ hown' hlies
              have hbn : Below B y3 y4 := hlies.below ((Below.refl B y3).alloc (by omega) _) (by simp; omega) (fun b hb => (hlr.lt b hb).1)
              have HLN := Lib.hid hln
              have HTN : Hid (TwIs y4 w.heap.size (x + 64) (curZ zz (3 + 1)) (.slice (some ⟨gT, 0, none⟩) (x + 64) capT) LT) := Lib.hid (by
                rw [show curZ zz (3 + 1) = (movedOf zz) from by unfold curZ; simp]
                exact (HTn.out.below HB3.out).keepB HG.out hs14 hbn)
              have HFN : Hid (FrP w4 y4 (TwB w.heap.size Nw)) := Lib.hid (by
                refine (HFn.out.behind ?_).behind (by rw [HBS.out]; exact hbn)
                rw [HBS.out]; exact HB3.out.mono hszx)
              clear hln hbn hown' hold hlies hlt2 hlr
              go_wp2
              go_roundw
              case rel => exact ⟨3 + 1, _, _, by omega, by go_num, rfl, HFN.out, HTN, HLN⟩
              case measure => simp [intOf]
      · have e2 : ((k5 : Int) == 2) = false := by rw [beq_eq_false_iff_ne]; omega
        have e3 : ((k5 : Int) == 3) = false := by rw [beq_eq_false_iff_ne]; omega
        have HQ := Lib.hid hq
        clear hq
        have HC0 : Hid (CopRel w wo Nw m (.slice (some ⟨gT, 0, none⟩) (m + 64) capT) LT zz 0 0 wo) := Lib.hid ⟨_, Cop.start (curZ_cop zz zz k5 (.inl rfl)).1 (curZ_cop zz zz k5 (.inl rfl)).2, HTk.out, FrP.refl _ _⟩
        go_wp2
        go_loopw [15] (fun i ws => ∃ x : Nat, x ≤ m ∧ i = .int .i64 x ∧ CopRel w wo Nw m (.slice (some ⟨gT, 0, none⟩) (m + 64) capT) LT zz x 0 ws) (fun i _ => m - (intOf i).toNat)
        case atStart => exact ⟨0, Nat.zero_le _, rfl, HC0.out⟩
        case round =>
          obtain ⟨x, hx, rfl, hC⟩ := hrel
          obtain ⟨wx, rfl⟩ : ∃ wo : World, wo = wr := ⟨_, rfl⟩
          by_cases hxt : x < m
          · have hxl : x < zz.length := by rw [HM.out]; exact hxt
            have HXz : Hid (zz[x]? = some (zz.getD x [])) := Lib.hid (by rw [List.getD_eq_getElem?_getD, List.getElem?_eq_getElem hxl]; rfl)
            obtain ⟨n, hn⟩ : ∃ n, (zz.getD x []).length = n := ⟨_, rfl⟩
            have HXn := Lib.hid hn
            have hn1 : n ≤ 1048576 := by rw [← HXn.out]; exact HZn.out x
            have HCx := Lib.hid hC
            have x0 : (0 : Int) ≤ (x : Int) := by omega
            have x1 : (x : Int) < (m : Int) := by omega
            clear hC hn hxl
            go_wp2
            go_loopw [16] (fun i ws => ∃ y : Nat, y ≤ n ∧ i = .int .i64 y ∧ CopRel w wo Nw m (.slice (some ⟨gT, 0, none⟩) (m + 64) capT) LT zz x y ws) (fun i _ => n - (intOf i).toNat)
            case atStart => exact ⟨0, Nat.zero_le _, rfl, HCx.out⟩
            case round =>
              obtain ⟨y, hy, rfl, hC⟩ := hrel
              obtain ⟨wi, rfl⟩ : ∃ wo : World, wo = wr := ⟨_, rfl⟩
              obtain ⟨g, cg, ht, hL, hfz⟩ := hC.row HM.out hxt
              have HCi := Lib.hid hC
              have HLx := Lib.hid hL
              rw [HXn.out] at ht
              by_cases hyt : y < n
              · have hyl : y < (zz.getD x []).length := by rw [HXn.out]; exact hyt
                obtain ⟨u0, u1, u2, t0, t1, t2⟩ := hC.cells HM.out hxt hyl hL
                obtain ⟨pa, q, c, hpa, hu, hq, _⟩ := (HE.out wi (hC.frp HFr.out)).1 x _ HXz.out
                obtain rfl := hpa
                rw [HXn.out] at hu
                obtain ⟨pd, hpd, v0, v1, v2⟩ := hq y _ (hd_get hyl)
                obtain rfl := hpd
                have y0 : (0 : Int) ≤ (y : Int) := by omega
                have y1 : (y : Int) < (n : Int) := by omega
                have f0 := hfz (y * 3)
                have f1 := hfz (y * 3 + 1)
                have f2 := hfz (y * 3 + 2)
                have HS := Lib.hid (hC.store HM.out hxt hyl hL (HG.out.1 x (by omega) g (by rw [hL]; rfl)))
                clear hC hL hfz hyl hq
                go_wp2_with fail
                go_region
                go_wp2
                go_roundw
                case rel => exact ⟨y + 1, by omega, by go_num, HS.out.gr (Gr.refl _).drew⟩
                case measure => simp [intOf]; omega
              · obtain rfl : y = n := by omega
                have hC2 := HCi.out
                rw [← HXn.out] at hC2
                have HS := Lib.hid hC2.next
                clear hC hL hfz hC2
                go_wp2
                go_roundw
                case rel => exact ⟨x + 1, by omega, by go_num, HS.out⟩
                case measure => simp [intOf]; omega
          · obtain rfl : x = m := by omega
            obtain ⟨hTn, hFn⟩ := hC.all HM.out
            have HFn : Hid (FrP w4 wx (TwB w.heap.size Nw)) := Lib.hid (hC.frp HFr.out)
            have HLn := Lib.hid (HH.out.frp hFn hs14)
            have hszx : B ≤ wx.heap.size := Nat.le_trans hsz hFn.2.2.2.1
            have HTn := Lib.hid hTn
            have HEn := Lib.hid (HE.out wx HFn.out)
            have hhl := Lib.hid (hTn.hll (by rw [HM.out]; omega))
            clear hTn hFn hC HC0 HTk HH
            go_wp2_with fail
            refine (HB1.out wx (some ⟨gT, 0, none⟩) capT hhl.out).mono ?_
            rintro e y1 ⟨va, rfl, hra, hb1⟩
            rw [HN1.out] at hra
            obtain ⟨pa, ca, rfl, _⟩ := own_rd hra
            have HRa := Lib.hid hra
            have HBa := Lib.hid hb1
            clear hra hb1 hhl
            go_wp2_with fail
            refine (sameH HN1.out (by omega) y1 (HL.of_own HRa.out) (HEn.out.below HBa.out).2.2.1).mono ?_
            rintro e y2 ⟨rfl, hg2⟩
            have HG2 := Lib.hid hg2
            clear hg2
            go_wp2_with fail
            refine (HK1.out gT capT _ LT y2 ((HTn.out.below HBa.out).below HG2.out.below) ((HEn.out.below HBa.out).gr HG2.out).1).mono ?_
            rintro e y3 ⟨rfl, hg3⟩
            have HB3 : Hid (Below wx.heap.size wx y3) := Lib.hid (HBa.out.trans ((HG2.out.trans hg3).below.mono HBa.out.size))
            have HR3 : Hid (y3.ownsRow B 34 3 (.slice pa N1 ca) N1 (encH T)) := Lib.hid (own_le (own_belowAll HRa.out (HG2.out.trans hg3).below) hszx)
            have HL3 := Lib.hid (HLn.out.below HB3.out)
            have hnew := HLn.out.fresh (va := .slice pa N1 ca) (H := wx.heap.size) (Nat.le_refl _) (fun b hb => (HRa.out.lt b hb).1)
            have HNw := Lib.hid hnew
            have hsz3 : B ≤ y3.heap.size := Nat.le_trans hszx HB3.out.size
            have hlr := HL3.out.1
            clear hg3 hnew HG2 HBa HRa
            go_wp2_with (at_builtin; refine wpList_append_two _ rfl _ _ 50 rfl B 23 i1 (.slice none 0 0) 1 24 Try.underlying50 hj hy0 hy1 hy2 rfl (by decide) lv k5 _ rfl (hlr.alloc _) ⟨y3.heap.size, 0, none⟩ 1 1 [.slice pa N1 ca] rfl rfl (World.news_of_block (heap_alloc_new y3 _)) (by simp [Value.oneCell']) (by decide) (by unfold maxLen; omega) (by omega) (by simp; omega) ?_; intro g' capn y4 hown' hold hlies hlt2)
            have hln := Lists.step HL3.out (by rw [q4_x _ _ HQ.out, q4_x _ _ HQ.out]; exact HR3.out) HNw.out (by decide) _ hown' hlies
            have hbn : Below B y3 y4 := hlies.below ((Below.refl B y3).alloc (by omega) _) (by simp; omega) (fun b hb => (hlr.lt b hb).1)
            have HLN := Lib.hid hln
            have HTN : Hid (TwIs y4 w.heap.size (x + 64) (curZ zz (k5 + 1)) (.slice (some ⟨gT, 0, none⟩) (x + 64) capT) LT) := Lib.hid (by
              rw [show curZ zz (k5 + 1) = zz from by have := HQ.out; unfold curZ; rw [if_neg (by omega)]]
              exact (HTn.out.below HB3.out).keepB HG.out hs14 hbn)
            have HFN : Hid (FrP w4 y4 (TwB w.heap.size Nw)) := Lib.hid (by
              refine (HFn.out.behind ?_).behind (by rw [HBS.out]; exact hbn)
              rw [HBS.out]; exact HB3.out.mono hszx)
            clear hln hbn hown' hold hlies hlt2 hlr
            go_wp2
            go_roundw
            case rel => exact ⟨k5 + 1, _, _, by omega, by go_num, rfl, HFN.out, HTN, HLN⟩
            case measure => simp [intOf]; omega
    · obtain rfl : k5 = 5 := by omega
      have HT5 : Hid (TwIs wo w.heap.size (m + 64) zz (.slice (some ⟨gT, 0, none⟩) (m + 64) capT) LT) := HTk
      have HEn := Lib.hid (HE.out wo HFr.out)
      obtain ⟨gl, cl, rfl, hgl1, hgl2⟩ := HH.out.1.form (by decide)
      have r0 := HH.out.2.1 0 (by decide)
      rw [q4_x _ _ (by decide), q4_x _ _ (by decide)] at r0
      have k0 : wo.cell? ⟨gl, 0, none⟩ = some (L 0) := by rw [HH.out.1.cellAt 0 (by decide)]; rfl
      obtain ⟨p0, c0, e0, _, _, _⟩ := own_rd r0
      rw [e0] at r0 k0
      have h0 := HL.of_own r0
      have r1 := HH.out.2.1 1 (by decide)
      rw [q4_x _ _ (by decide), q4_x _ _ (by decide)] at r1
      have k1 : wo.cell? ⟨gl, 1, none⟩ = some (L 1) := by rw [HH.out.1.cellAt 1 (by decide)]; rfl
      obtain ⟨p1, c1, e1, _, _, _⟩ := own_rd r1
      rw [e1] at r1 k1
      have h1 := HL.of_own r1
      have r2 := HH.out.2.1 2 (by decide)
      rw [q4_y _ _ (by decide), q4_y _ _ (by decide)] at r2
      have k2 : wo.cell? ⟨gl, 2, none⟩ = some (L 2) := by rw [HH.out.1.cellAt 2 (by decide)]; rfl
      obtain ⟨p2, c2, e2, _, _, _⟩ := own_rd r2
      rw [e2] at r2 k2
      have h2 := HL.of_own r2
      have r3 := HH.out.2.1 3 (by decide)
      rw [q4_y _ _ (by decide), q4_y _ _ (by decide)] at r3
      have k3 : wo.cell? ⟨gl, 3, none⟩ = some (L 3) := by rw [HH.out.1.cellAt 3 (by decide)]; rfl
      obtain ⟨p3, c3, e3, _, _, _⟩ := own_rd r3
      rw [e3] at r3 k3
      have h3 := HL.of_own r3
      have r4 := HH.out.2.1 4 (by decide)
      rw [q4_x _ _ (by decide), q4_x _ _ (by decide)] at r4
      have k4 : wo.cell? ⟨gl, 4, none⟩ = some (L 4) := by rw [HH.out.1.cellAt 4 (by decide)]; rfl
      obtain ⟨p4, c4, e4, _, _, _⟩ := own_rd r4
      rw [e4] at r4 k4
      have h4 := HL.of_own r4
      have K : Hid (∀ z, Gr wo z → (z.cell? ⟨gl, 0, none⟩ = some (.slice p0 N1 c0) ∧ z.cell? ⟨gl, 1, none⟩ = some (.slice p1 N1 c1) ∧ z.cell? ⟨gl, 2, none⟩ = some (.slice p2 N2 c2) ∧ z.cell? ⟨gl, 3, none⟩ = some (.slice p3 N2 c3) ∧ z.cell? ⟨gl, 4, none⟩ = some (.slice p4 N1 c4))) := Lib.hid (fun z hz => ⟨(hz.below.cell (p := ⟨gl, 0, none⟩) hgl2).trans k0, (hz.below.cell (p := ⟨gl, 1, none⟩) hgl2).trans k1, (hz.below.cell (p := ⟨gl, 2, none⟩) hgl2).trans k2, (hz.below.cell (p := ⟨gl, 3, none⟩) hgl2).trans k3, (hz.below.cell (p := ⟨gl, 4, none⟩) hgl2).trans k4⟩)
      have R : Hid ((HL wo p0 T ∧ HL wo p1 T ∧ HL wo p2 O ∧ HL wo p3 O ∧ HL wo p4 T)) := Lib.hid ⟨h0, h1, h2, h3, h4⟩
      clear r0 k0 e0 h0 r1 k1 e1 h1 r2 k2 e2 h2 r3 k3 e3 h3 r4 k4 e4 h4
      obtain ⟨k0, k1, k2, k3, k4⟩ := K.out wo (Gr.refl _)
      go_wp2_with fail
      refine (sameH HN1.out (by omega) wo ((R.out.1).gr (Gr.refl _)) ((HEn.out.gr (Gr.refl _)).2.2.1)).mono ?_
      rintro e z0 ⟨rfl, hz0⟩
      have hy0 := hz0
      clear k0 k1 k2 k3 k4 hz0
      obtain ⟨k0, k1, k2, k3, k4⟩ := K.out z0 hy0
      go_wp2_with fail
      refine (sameH HN1.out (by omega) z0 ((R.out.2.1).gr hy0) ((HEn.out.gr hy0).2.2.1)).mono ?_
      rintro e z1 ⟨rfl, hz1⟩
      have hy1 := hy0.trans hz1
      clear k0 k1 k2 k3 k4 hz1
      obtain ⟨k0, k1, k2, k3, k4⟩ := K.out z1 hy1
      go_wp2_with fail
      refine (sameH HN1.out (by omega) z1 ((R.out.2.2.2.2).gr hy1) ((HEn.out.gr hy1).2.2.1)).mono ?_
      rintro e z2 ⟨rfl, hz2⟩
      have hy2 := hy1.trans hz2
      clear k0 k1 k2 k3 k4 hz2
      obtain ⟨k0, k1, k2, k3, k4⟩ := K.out z2 hy2
      go_wp2_with fail
      refine (sameH HN2.out (by omega) z2 ((R.out.2.2.1).gr hy2) ((HEn.out.gr hy2).2.2.2)).mono ?_
      rintro e z3 ⟨rfl, hz3⟩
      have hy3 := hy2.trans hz3
      clear k0 k1 k2 k3 k4 hz3
      obtain ⟨k0, k1, k2, k3, k4⟩ := K.out z3 hy3
      go_wp2_with fail
      refine (sameH HN2.out (by omega) z3 ((R.out.2.2.2.1).gr hy3) ((HEn.out.gr hy3).2.2.2)).mono ?_
      rintro e z4 ⟨rfl, hz4⟩
      have hy4 := hy3.trans hz4
      clear k0 k1 k2 k3 k4 hz4
      obtain ⟨k0, k1, k2, k3, k4⟩ := K.out z4 hy4
      have hly := HH.out.below hy4.below
      have hs4 := hy4.below.size
      go_wp2_with fail
      refine (apartB_calls (.slice (some ⟨gl, 0, none⟩) 5 cl) 5 L (q4 N1 N2) B (by decide) (fun i _ => by unfold q4; split <;> omega) z4 (by omega) hly.1 (fun i hi => ⟨_, hly.2.1 i hi⟩) hly.2.2).mono ?_
      rintro e z5 ⟨rfl, hz5⟩
      have HTz : Hid (TwIs z5 w.heap.size (m + 64) zz (.slice (some ⟨gT, 0, none⟩) (m + 64) capT) LT) := Lib.hid ((HT5.out.below hy4.below).keepB HG.out hs14 hz5)
      have HFz : Hid (FrP w4 z5 (TwB w.heap.size Nw)) := Lib.hid ((HFr.out.trans_gr hy4).behind (by rw [HBS.out]; exact hz5))
      clear hly hs4 hz5 k0 k1 k2 k3 k4
      go_wp2_with fail
      refine (HK1.out gT capT _ LT z5 HTz.out (HE.out z5 HFz.out).1).mono ?_
      rintro e z6 ⟨rfl, hg6⟩
      have HEnd : Hid (Below w.heap.size w z6) := Lib.hid (by
        have hF6 := HFz.out.trans_gr hg6
        exact HBw4.out.1.trans (hF6.below (Nat.le_trans HBw4.out.2.1 HBw4.out.2.2) (fun b hb => hb.1)))
      clear hg6
      go_wp2
      go_ret
      exact ⟨rfl, HEnd.out⟩

theorem FirstE.of_post {w w' : World} {T : List Hv} {e : Ending} (h : FirstPost w T e w') : FirstE w T 0 e w' := h

theorem bound_of_pair {a b : Nat} (h : a + b ≤ 1048576) : a ≤ 1048576 ∧ b ≤ 1048576 := by omega

theorem BestFirst_walk (a0 : Int) (w0 : (Lit.int .i64 a0).wf = true) (v : Value) (zz : List (List Hv)) (w : World) (h1 : IsSl w 1 24 (IsSl w 3 32 IsHit) [v] zz)
    (hbk : (zz.map fun l => (l.map bkHit).sum + 1).sum + 1 ≤ 1048576) :
    Calls Try.prog 8 #[.int .i64 a0, v] w fun e w' => e = .returned (.bool true) ∧ Below w.heap.size w w' := by
  obtain ⟨hsz, p, cap, rfl, hlc, hcm, hLL, hGL⟩ := lists_of_arg h1
  have hfl := bk_flat zz
  have hfb : zz.flatten.length + zz.length ≤ 1048576 := by omega
  obtain ⟨hf1, hf2⟩ := bound_of_pair hfb
  have hGM := movedOf_good hGL
  by_cases hk : a0 < 0 ∨ 4096 < a0
  · have hE : ∀ (e : Ending) (W w' : World), (e = .returned (.tuple #[.slice none 0 0, .int .i64 100]) ∧ w' = W) → FirstE W [] 100 e w' := fun e W w' ⟨he, hw⟩ => by
      subst hw
      exact ⟨_, he, World.ownsRow_nil _ _ _ _, Below.refl _ _⟩
    exact BestFirst_gen a0 100 [] [] (by simp) (by simp) p cap zz hfb w hLL (fun W p c h => (bestFirst_bad _ a0 hk W).mono (fun e w' => hE e W w')) (fun W p c h => (bestFirst_bad _ a0 hk W).mono (fun e w' => hE e W w')) (fun W p c h => (rFirst_bad _ a0 hk W).mono (fun e w' => hE e W w')) (fun W p c h => (rFirst_bad _ a0 hk W).mono (fun e w' => hE e W w'))
  · obtain ⟨k, rfl⟩ : ∃ k : Nat, a0 = (k : Int) := ⟨a0.toNat, by omega⟩
    have hk4 : k ≤ 4096 := by omega
    have hB2 := fun W p c h => bestFirst_calls p c (movedOf zz) k hk4 (by rw [movedOf_length]; omega) hGM W h
    have hR2 := fun W p c h => rFirst_ok p c (movedOf zz) k hk4 (by rw [movedOf_length]; omega) (by rw [movedOf_flat]; omega) hGM W h
    simp only [movedOf_length] at hB2 hR2
    exact BestFirst_gen k 0 ((allH zz.flatten).take k) ((allH (movedOf zz).flatten).take k) (by simp; omega) (by simp; omega) p cap zz hfb w hLL (fun W p c h => bestFirst_calls p c zz k hk4 (by omega) hGL W h) hB2 (fun W p c h => rFirst_ok p c zz k hk4 (by omega) (by omega) hGL W h) hR2
end Go.Proofs.Ytahceakghgmpkaa

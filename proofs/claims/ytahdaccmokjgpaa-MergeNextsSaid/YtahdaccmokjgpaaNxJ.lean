/-
  WALK: both mergers played beside each other (the law's played).
-/
import Derived.Test.YtahdaccmokjgpaaNxI
namespace Go.Proofs.Ytahdaccmokjgpaa
open Go.RowKit ArgK
set_option linter.unusedVariables false

/-- The list of sources while it is written. -/
def FulRel (w2 : World) (B0 gF N capF : Nat) (X : List Value) (wr : World) : Prop :=
  wr.ownsRow B0 41 1 (.slice (some ⟨gF, 0, none⟩) N capF) N X ∧ Fr w2 wr [some gF]

theorem FulRel.set {w2 wr : World} {B0 gF N capF : Nat} {X : List Value} (h : FulRel w2 B0 gF N capF X wr) (j : Nat) (u : Value) : FulRel w2 B0 gF N capF (X.set j u) (wr.setCell ⟨gF, j, none⟩ u) :=
  ⟨own_setS h.1 j u, h.2.setCell (p := ⟨gF, j, none⟩) (fun _ => by simp) u⟩

theorem ful_src {w : World} {B0 gF N capF : Nat} {X : List Value} (h : w.ownsRow B0 41 1 (.slice (some ⟨gF, 0, none⟩) N capF) N X) : B0 ≤ gF ∧ gF < w.heap.size ∧ X.length = N ∧ (∃ cs fr, w.heap[gF]? = some (.cells cs 41 fr)) ∧ (∀ j, j < N → w.cell? ⟨gF, j, none⟩ = X[j]?) ∧ ∀ j, w.frozen? ⟨gF, j, none⟩ = false := by
  have hl := h.1
  rcases h.2 with ⟨k, _⟩ | ⟨g, cap, cur, k, k1, k2, _⟩
  · cases k
  · cases k
    exact ⟨k1, (Array.getElem?_eq_some_iff.1 k2).1, by omega, ⟨_, _, k2⟩, fun j hj => h.cellAt j (by omega), fun j => h.frozenAt j⟩

set_option maxRecDepth 100000 in
set_option maxHeartbeats 16000000 in
theorem played_calls {w : World} {E0 B0 gF n N capF c : Nat} {vals : List Value} {lp : Option Addr} {ls : List Kl} {bottom : Bool} {steps : Int} (hfull : w.ownsRow B0 41 1 (.slice (some ⟨gF, 0, none⟩) N capF) N vals) (hnN : n < N) (hE0 : E0 ≤ gF)
    (hn : ls.length = n) (hsz : n * 56 ≤ 140737488351232) (hK : KLs w E0 lp ls) (hw : ∀ x ∈ ls, ∀ e ∈ x.es, (Lit.int .i64 e.s).wf = true) :
    Calls Try.prog 17 #[.slice (some ⟨gF, 0, none⟩) n capF, .slice lp n c, .bool bottom, .int .i64 steps] w fun e w' => e = .returned (.bool true) ∧ w'.ownsRow B0 41 1 (.slice (some ⟨gF, 0, none⟩) N capF) N (List.replicate n .nilFunc ++ vals.drop n) ∧ Fr w w' [some gF] := by
  obtain ⟨i0, hi0, hz0, hz1, hz2⟩ := info_parts klinfo
  have hbu : ∀ (W : World) (q : Option Addr) (m k : Nat) (f : Int) (mu : Bool), (Instr.build 35 #[(0, .slice q m k), (1, .int .i64 f), (2, .bool mu)]).run Try.prog W = .ok (.agg #[.slice q m k, .int .i64 f, .bool mu, .int .i64 0, .bool false]) W := fun W q m k f mu => run_build W _ _ _ (by kernel_rfl)
  have hbs : ∀ (W : World), (Instr.build 41 #[]).run Try.prog W = .ok (.agg #[.nilFunc]) W := fun W => run_build W _ _ _ (by kernel_rfl)
  obtain ⟨hB0, hgl, hvl, hgo, hgc, hgf⟩ := ful_src hfull
  have hE0w : E0 ≤ w.heap.size := by omega
  have HFU := Lib.hid hfull
  have HN := Lib.hid hn
  have HK := Lib.hid hK
  have HW := Lib.hid hw
  have HG := Lib.hid (And.intro hE0 (And.intro hgl (And.intro hvl (And.intro hgo hE0w))))
  clear hfull hn hK hw hE0 hgo hgc hgf hB0 hvl
  go_enter Try.func17, Try.ntmps17
  go_wp2
  go_loopw [9, 10] (fun ov iv wr => ∃ i : Nat, iv = .int .i64 i ∧ i ≤ n ∧ Hid (wr.ownsRow w.heap.size 35 5 ov i (encK ((ls.map Kl.new).take i)) ∧ Below w.heap.size w wr)) (fun _ iv _ => n - (intOf iv).toNat)
  case atStart => exact ⟨0, rfl, Nat.zero_le _, Lib.hid ⟨own_none, Below.refl _ _⟩⟩
  case round =>
    obtain ⟨ov, rfl⟩ : ∃ ov : Value, ov = u9 := ⟨_, rfl⟩
    obtain ⟨i, rfl, hi, HI⟩ := hrel
    obtain ⟨wo, rfl⟩ : ∃ wo : World, wo = wr := ⟨_, rfl⟩
    obtain ⟨op, oc, rfl, _, _, _⟩ := own_rd HI.out.1
    by_cases hlt : i < n
    · obtain ⟨x, hx⟩ : ∃ x, ls[i]? = some x := ⟨_, List.getElem?_eq_getElem (by rw [HN.out]; exact hlt)⟩
      obtain ⟨a, rfl, h5, hE, hel⟩ := HK.out.below HG.out.2.2.2.2 (HI.out.2) i x hx
      have HNx : Hid (∀ ov' w2, w2.ownsRow w.heap.size 35 5 ov' (i + 1) (encK ((ls.map Kl.new).take i) ++ [.slice x.q x.es.length x.c, .int .i64 x.fin, .bool x.mute, .int .i64 0, .bool false]) → Below w.heap.size w w2 → w2.ownsRow w.heap.size 35 5 ov' (i + 1) (encK ((ls.map Kl.new).take (i + 1))) ∧ Below w.heap.size w w2) := Lib.hid (fun ov' w2 h1 h2 => ⟨by rw [kl_new_take ls hx, encK_snoc]; exact h1, h2⟩)
      obtain ⟨q, xc, es, fin, mute, u3, dn⟩ := x
      obtain ⟨x0, x1, x2, x3, x4⟩ := h5
      obtain ⟨nl, hnl⟩ : ∃ nl, es.length = nl := ⟨_, rfl⟩
      simp only at x0 x1 x2 x3 x4 hel HNx
      simp only [hnl] at x0 hel HNx
      have z0 := cell_lt x0
      have hs := HI.out.2.size
      have hva := (HI.out.1.alloc (.cells #[.slice q nl xc, .int .i64 fin, .bool mute, .int .i64 u3, .bool dn] 35)).alloc (.cells #[.slice q nl xc, .int .i64 fin, .bool mute, .int .i64 0, .bool false] 35)
      have hnews := World.news_of_block (cs := #[.slice q nl xc, .int .i64 fin, .bool mute, .int .i64 0, .bool false]) (t := 35) (fr := (0, 0)) (heap_alloc_new (wo.alloc (.cells #[.slice q nl xc, .int .i64 fin, .bool mute, .int .i64 u3, .bool dn] 35)) (.cells #[.slice q nl xc, .int .i64 fin, .bool mute, .int .i64 0, .bool false] 35))
      have e3 : (wo.alloc (.cells #[.slice q nl xc, .int .i64 fin, .bool mute, .int .i64 u3, .bool dn] 35)).heap.size = wo.heap.size + 1 := by simp
      rw [e3] at hnews
      have chk1 : i + 1 ≤ maxLen := by unfold maxLen; omega
      have chk2 : (i + 1) * 56 ≤ 140737488355328 := by omega
      have chk3 : w.heap.size ≤ ((wo.alloc (.cells #[.slice q nl xc, .int .i64 fin, .bool mute, .int .i64 u3, .bool dn] 35)).alloc (.cells #[.slice q nl xc, .int .i64 fin, .bool mute, .int .i64 0, .bool false] 35)).heap.size := by simp; omega
      have HBL := Lib.hid HI.out.2
      have j0 : (0 : Int) ≤ (i : Int) := by omega
      have j1 : (i : Int) < (n : Int) := by omega
      clear hx hE hnl e3
      go_wp2_with (at_builtin; refine wpList_append_own _ rfl _ _ 33 rfl w.heap.size 35 i0 _ 5 56 Try.underlying33 hi0 hz0 hz1 hz2 rfl (by decide) (.slice op i oc) i _ rfl hva ⟨wo.heap.size + 1, 0, none⟩ 1 1 [.slice q nl xc, .int .i64 fin, .bool mute, .int .i64 0, .bool false] rfl rfl hnews (by simp [Value.oneCell']) chk1 chk2 chk3 ?_)
      intro ov2 w2 hown2 hgrow2 _
      have hb2 : Below w.heap.size w w2 := ((HBL.out.alloc HBL.out.size _).alloc (by simp; omega) _).trans ((kp_grown hva hgrow2).below chk3)
      have HR := Lib.hid (HNx.out ov2 w2 hown2 hb2)
      clear hown2 hgrow2 hb2 hva hnews chk3 x0 x1 x2 x3 x4
      go_wp2
      go_roundw
      case rel => exact ⟨i + 1, by go_num, by omega, HR⟩
      case measure => simp [intOf]; omega
    · obtain rfl : n = i := by omega
      have hOwn := HI.out.1
      have hln : (ls.map Kl.new).length = n := by rw [List.length_map, HN.out]
      rw [List.take_of_length_le (Nat.le_of_eq hln)] at hOwn
      have hKL : KLs wo E0 op (ls.map Kl.new) := kls_ownB hOwn hln (fun x hx => by
        obtain ⟨y, hy, rfl⟩ := List.mem_map.1 hx
        obtain ⟨j, hj⟩ := List.getElem?_of_mem hy
        obtain ⟨_, _, _, k1, k2⟩ := HK.out.below HG.out.2.2.2.2 HI.out.2 j y hj
        exact ⟨k1, k2⟩)
      have HOwn := Lib.hid hOwn
      have HKL := Lib.hid hKL
      have HLN := Lib.hid hln
      have hpn : op = none → n = 0 ∧ oc = 0 := fun h => by
        subst h
        rcases hOwn.2 with ⟨e, e2⟩ | ⟨g', _, _, e, _⟩
        · cases e; exact ⟨rfl, rfl⟩
        · cases e
      have HPN := Lib.hid hpn
      have HBO := Lib.hid HI.out.2
      have HE0o := Lib.hid (Nat.le_trans HG.out.2.2.2.2 HI.out.2.size)
      clear hOwn hln hKL hpn
      go_wp2_with fail
      refine (fedB_calls HE0o.out HLN.out (by omega) HKL.out).mono ?_
      rintro e w2 ⟨fp, sp, fc, sc, ps, rfl, hb2, hps, hF, hS, hI, hge⟩
      rw [HLN.out] at hF hS hps ⊢
      obtain ⟨_, _, esv, hsp, hSL⟩ := own_src hS
      simp only [Value.slice.injEq] at esv
      obtain ⟨rfl, _, rfl⟩ := esv
      have HPS := Lib.hid hps
      have HF2 := Lib.hid hF
      have HS2 := Lib.hid hS
      have HI2 := Lib.hid hI
      have HGE := Lib.hid hge
      have HB2 := Lib.hid hb2
      have HFU2 : Hid (FulRel w2 B0 gF N capF ((ps.map fdV).take 0 ++ vals.drop 0) w2) := Lib.hid ⟨by
        simp only [List.take_zero, List.nil_append, List.drop_zero]
        exact own_belowAll (own_belowAll HFU.out HBO.out) (HB2.out), Fr.refl _ _⟩
      clear hb2 hps hF hS hI hge hsp hSL
      go_wp2
      go_loopw [14] (fun iv wr => ∃ i : Nat, iv = .int .i64 i ∧ i ≤ n ∧ Hid (FulRel w2 B0 gF N capF ((ps.map fdV).take i ++ vals.drop i) wr)) (fun iv _ => n - (intOf iv).toNat)
      case atStart => exact ⟨0, rfl, Nat.zero_le _, HFU2⟩
      case round =>
        obtain ⟨i, rfl, hi, HI3⟩ := hrel
        obtain ⟨wv, rfl⟩ : ∃ wv : World, wv = wr := ⟨_, rfl⟩
        have hgS : ∀ g, sp = some ⟨g, 0, none⟩ → g ≠ gF ∧ g < w2.heap.size := fun g e => by
          subst e
          rcases HS2.out.2 with ⟨e2, _⟩ | ⟨g', _, _, e2, q1, q2, _⟩
          · cases e2
          · cases e2
            have := HBO.out.size
            have := HG.out.2.1
            exact ⟨by omega, (Array.getElem?_eq_some_iff.1 q2).1⟩
        by_cases hlt : i < n
        · obtain ⟨p, hp⟩ : ∃ p, ps[i]? = some p := ⟨_, List.getElem?_eq_getElem (by rw [HPS.out]; exact hlt)⟩
          obtain ⟨gS, rfl, hcS⟩ : ∃ gS, sp = some ⟨gS, 0, none⟩ ∧ w2.cell? ⟨gS, i, none⟩ = some (fdV p) := by
            obtain ⟨q, d, e, _, _, hr⟩ := own_rd HS2.out
            simp only [Value.slice.injEq] at e
            obtain ⟨gS, e2, _, _, h3, _⟩ := hr (by omega)
            refine ⟨gS, e.1.trans e2, ?_⟩
            rw [h3 i (by omega), List.getElem?_map, hp]
            rfl
          obtain ⟨n1, n2⟩ := hgS gS rfl
          have hcv : wv.cell? ⟨gS, i, none⟩ = some (fdV p) := (World.cell?_of_block (a := ⟨gS, i, none⟩) (HI3.out.2.2.2.2.2 gS n2 (by simpa using n1))).trans hcS
          obtain ⟨_, _, hl4, _, k4, k5⟩ := ful_src HI3.out.1
          have hf := k5 i
          obtain ⟨v0, hv0⟩ : ∃ v0, wv.cell? ⟨gF, i, none⟩ = some v0 := ⟨_, (k4 i (by omega)).trans (List.getElem?_eq_getElem (by omega))⟩
          have j0 : (0 : Int) ≤ (i : Int) := by omega
          have j1 : (i : Int) < (n : Int) := by omega
          have HR : Hid (FulRel w2 B0 gF N capF ((ps.map fdV).take (i + 1) ++ vals.drop (i + 1)) (wv.setCell ⟨gF, i, none⟩ (fdV p))) := Lib.hid (by
            have h := HI3.out.set i (fdV p)
            rw [take_drop_set (by rw [List.getElem?_map, hp]; rfl) (by rw [HG.out.2.2.1]; omega)] at h
            exact h)
          clear hcS k4 k5 hl4 hgS hp
          rcases fdV_cases p with ev | ev
          · rw [ev] at hcv HR
            clear ev
            go_wp2
            go_roundw
            case rel => exact ⟨i + 1, by go_num, by omega, HR⟩
            case measure => simp [intOf]; omega
          · rw [ev] at hcv HR
            clear ev
            go_wp2
            go_roundw
            case rel => exact ⟨i + 1, by go_num, by omega, HR⟩
            case measure => simp [intOf]; omega
        · obtain rfl : n = i := by omega
          have hX : (ps.map fdV).take n ++ vals.drop n = ps.map fdV ++ vals.drop n := by rw [List.take_of_length_le (by rw [List.length_map, HPS.out]; omega)]
          have hE := HI3.out
          rw [hX] at hE
          have HF3 := Lib.hid (own_below (HF2.out) (show Below w2.heap.size w2 w2 from Below.refl _ _) (fun g hg => (HF2.out.lt g hg).2))
          obtain ⟨_, _, hl4, hob, k4, k5⟩ := ful_src hE.1
          have hSLF : SL wv (some ⟨gF, 0, none⟩) (ps.map fdV) := fun j u hj => by
            have hj' := (List.getElem?_eq_some_iff.1 hj).1
            rw [List.length_map, HPS.out] at hj'
            refine ⟨⟨gF, 0, none⟩, rfl, ?_⟩
            rw [show (⟨gF, 0, none⟩ : Addr).add j = ⟨gF, j, none⟩ by unfold Addr.add; split <;> simp_all, k4 j (by omega), List.getElem?_append_left (by rw [List.length_map, HPS.out]; exact hj')]
            exact hj
          have hobj2 : ∃ cs fr, w2.heap[gF]? = some (.cells cs 41 fr) := (ful_src HFU2.out.1).2.2.2.1
          have HI4 := Lib.hid (HI2.out.fr hE.2 HG.out.1 hobj2)
          have HSLF := Lib.hid hSLF
          have HE2 := Lib.hid hE
          have HOB := Lib.hid hob
          clear hE hX hob k4 k5 hl4 hSLF hgS hobj2
          by_cases h1024 : n ≤ 1024
          · go_wp2_with fail
            refine (New_calls (fs := ps.map fdV) bottom (by rw [List.length_map, HPS.out]) h1024 (fun h => by cases h) HSLF.out (by
              intro u hu
              obtain ⟨p, _, rfl⟩ := List.mem_map.1 hu
              unfold fdV
              split <;> rfl)).mono ?_
            rintro e w3 ⟨mb, hb, sv, vv, rfl, hb3, hM3, hP3⟩
            have hKL3 : KLs w3 E0 op (ls.map Kl.new) := ((kls_fr (HKL.out.below HE0o.out HB2.out) HE2.out.2 HG.out.1 (fun a ea => by
              rcases HOwn.out.2 with ⟨e, _⟩ | ⟨g', _, _, e, q1, _⟩
              · rw [ea] at e; cases e
              · rw [ea] at e
                cases e
                have := HG.out.2.1
                simp only
                omega)).below (Nat.le_trans (Nat.le_trans HE0o.out HB2.out.size) HE2.out.2.size) hb3)
            have hE03 : E0 ≤ w3.heap.size := Nat.le_trans (Nat.le_trans (Nat.le_trans HE0o.out HB2.out.size) HE2.out.2.size) hb3.size
            have HKL3 := Lib.hid hKL3
            have HE03 := Lib.hid hE03
            have HB3 := Lib.hid hb3
            have HM3 := Lib.hid hM3
            have HP3 := Lib.hid hP3
            clear hKL3 hE03 hb3 hM3 hP3
            go_wp2_with fail
            refine (RNew_calls bottom HLN.out h1024 HPN.out HKL3.out HE03.out (fun x hx => by
              obtain ⟨y, _, rfl⟩ := List.mem_map.1 hx
              exact ⟨0, rfl⟩)).mono ?_
            rintro e w4 ⟨rb, p', c', rfl, hb4, hR4, hrb, hrow4⟩
            have HB4 := Lib.hid hb4
            have HR4 := Lib.hid hR4
            have HRB := Lib.hid (And.intro hrb hrow4)
            have HFU4 : Hid (FulRel w4 B0 gF N capF (List.replicate 0 .nilFunc ++ (ps.map fdV ++ vals.drop n).drop 0) w4) := Lib.hid ⟨by
              simp only [List.replicate_zero, List.nil_append, List.drop_zero]
              exact own_belowAll (own_belowAll HE2.out.1 HB3.out) HB4.out, Fr.refl _ _⟩
            clear hb4 hR4 hrb hrow4
            go_wp2
            go_loopw [17] (fun iv wr => ∃ i : Nat, iv = .int .i64 i ∧ i ≤ n ∧ Hid (FulRel w4 B0 gF N capF (List.replicate i .nilFunc ++ (ps.map fdV ++ vals.drop n).drop i) wr)) (fun iv _ => n - (intOf iv).toNat)
            case atStart => exact ⟨0, rfl, Nat.zero_le _, HFU4⟩
            case round =>
              obtain ⟨i, rfl, hi, HI3⟩ := hrel
              by_cases hlt : i < n
              · obtain ⟨_, _, hl4, _, k4, k5⟩ := ful_src HI3.out.1
                have hf := k5 i
                obtain ⟨v0, hv0⟩ : ∃ v0, wr.cell? ⟨gF, i, none⟩ = some v0 := ⟨_, (k4 i (by omega)).trans (List.getElem?_eq_getElem (by omega))⟩
                have j0 : (0 : Int) ≤ (i : Int) := by omega
                have j1 : (i : Int) < (n : Int) := by omega
                have HR : Hid (FulRel w4 B0 gF N capF (List.replicate (i + 1) .nilFunc ++ (ps.map fdV ++ vals.drop n).drop (i + 1)) (wr.setCell ⟨gF, i, none⟩ .nilFunc)) := Lib.hid (by
                  have h := HI3.out.set i .nilFunc
                  rw [rep_drop_set (by rw [List.length_append, List.length_map, HPS.out]; omega)] at h
                  exact h)
                clear k4 k5 hl4
                go_wp2
                go_roundw
                case rel => exact ⟨i + 1, by go_num, by omega, HR⟩
                case measure => simp [intOf]; omega
              · obtain rfl : n = i := by omega
                have hX : List.replicate n Value.nilFunc ++ (ps.map fdV ++ vals.drop n).drop n = List.replicate n .nilFunc ++ vals.drop n := by
                  rw [List.drop_append_of_le_length (by rw [List.length_map, HPS.out]; omega), List.drop_of_length_le (by rw [List.length_map, HPS.out]; omega), List.nil_append]
                have hE := HI3.out
                rw [hX] at hE
                have HE := Lib.hid hE
                clear hE hX
                go_wp2
                have hwv : w.heap.size ≤ wv.heap.size := Nat.le_trans (Nat.le_trans HBO.out.size HB2.out.size) HE2.out.2.size
                have hPlC := PlRel.start HG.out.1 HG.out.2.1 hwv HN.out HPS.out (fun p hp => Nat.le_trans HBO.out.size (HGE.out p hp)) HW.out HI4.out HOB.out HB3.out HM3.out HP3.out HB4.out HR4.out HRB.out.1 HRB.out.2 HE.out.2
                have hFr0 : Fr w wr [some gF] := ((((Fr.of_below HBO.out [some gF]).trans (Fr.of_below HB2.out [some gF])).trans HE2.out.2).trans (Fr.of_below HB3.out [some gF])).trans (Fr.of_below HB4.out [some gF]) |>.trans HE.out.2
                have hFd : wr.ownsRow wo.heap.size 67 1 (.slice fp n fc) n (ps.map ptV) := by
                  have k1 := HE2.out.2.own HF2.out (fun g hg hm => by
                    have := (HF2.out.lt g hg).1
                    have := HG.out.2.1
                    have := HBO.out.size
                    simp only [List.mem_singleton, Option.some.injEq] at hm
                    omega)
                  exact HE.out.2.own (own_belowAll (own_belowAll k1 HB3.out) HB4.out) (fun g hg hm => by
                    have := (HF2.out.lt g hg).1
                    have := HG.out.2.1
                    have := HBO.out.size
                    simp only [List.mem_singleton, Option.some.injEq] at hm
                    omega)
                have HPl := Lib.hid hPlC.1
                have HFr0 := Lib.hid hFr0
                have HFd := Lib.hid hFd
                have HC0 := Lib.hid hPlC.2
                clear hPlC hFr0 hFd hwv
                obtain ⟨w5, rfl⟩ : ∃ w5 : World, w5 = wr := ⟨_, rfl⟩
                have hgf : ∀ W : World, W.ownsRow wo.heap.size 67 1 (.slice fp n fc) n (ps.map ptV) → ∀ (i : Nat) (q : Nat × Bool), ps[i]? = some q → ∃ g, fp = some ⟨g, 0, none⟩ ∧ W.cell? ⟨g, i, none⟩ = some (.pointer (some ⟨q.1, 0, none⟩)) := fun W hW i q hq => by
                  have hi := (List.getElem?_eq_some_iff.1 hq).1
                  rw [HPS.out] at hi
                  obtain ⟨_, _, e, _, _, hr⟩ := own_rd hW
                  simp only [Value.slice.injEq] at e
                  obtain ⟨g, e2, _, _, h3, _⟩ := hr (by omega)
                  refine ⟨g, e.1.trans e2, ?_⟩
                  rw [h3 i (by omega), List.getElem?_map, hq]
                  rfl
                have HGf := Lib.hid hgf
                clear hgf
                go_loopw [18] (fun iv wr => ∃ i : Nat, iv = .int .i64 i ∧ i ≤ n ∧ Hid (w5 = wr)) (fun iv _ => n - (intOf iv).toNat)
                case atStart => exact ⟨0, rfl, Nat.zero_le _, Lib.hid rfl⟩
                case round =>
                  obtain ⟨i, rfl, hi, HWr⟩ := hrel
                  obtain rfl := HWr.out
                  by_cases hlt : i < n
                  · obtain ⟨q, hq⟩ : ∃ q, ps[i]? = some q := ⟨_, List.getElem?_eq_getElem (by rw [HPS.out]; exact hlt)⟩
                    obtain ⟨g, rfl, hcg⟩ := HGf.out _ HFd.out i q hq
                    have hc0 := HC0.out i q hq
                    have j0 : (0 : Int) ≤ (i : Int) := by omega
                    have j1 : (i : Int) < (n : Int) := by omega
                    clear hq
                    go_wp2
                    go_roundw
                    case rel => exact ⟨i + 1, by go_num, by omega, by first | exact Lib.hid rfl | exact Lib.hid trivial⟩
                    case measure => simp [intOf]; omega
                  · obtain rfl : n = i := by omega
                    go_wp2
                    go_loopw [19] (fun kv wr => ∃ k : Nat, kv = .int .i64 k ∧ k ≤ 400 ∧ Hid (PlRel w5 w.heap.size mb hb sv ps bottom rb p' n c' wr)) (fun kv _ => 400 - (intOf kv).toNat)
                    case atStart => exact ⟨0, rfl, Nat.zero_le _, HPl⟩
                    case round =>
                      obtain ⟨k, rfl, hk, HP5⟩ := hrel
                      have hfin : Hid (∀ W, PlRel w5 w.heap.size mb hb sv ps bottom rb p' n c' W → W.ownsRow B0 41 1 (.slice (some ⟨gF, 0, none⟩) N capF) N (List.replicate n .nilFunc ++ vals.drop n) ∧ Fr w W [some gF]) := Lib.hid (fun W hW => by
                        obtain ⟨_, _, _, _, _, _, _, hkp⟩ := hW
                        exact ⟨hkp.own HE.out.1 (.inl (by decide)), fr_below HFr0.out (hkp.below HFr0.out.size)⟩)
                      by_cases hst : (k : Int) < steps
                      · by_cases hk4 : k < 400
                        · have hk4' : (k : Int) < 400 := by omega
                          obtain ⟨R, hC⟩ := HP5.out.first HPS.out h1024 HFr0.out.size
                          obtain ⟨⟨x, more, cd⟩, M⟩ := R
                          simp only at hC
                          have HC := Lib.hid hC
                          unfold Ent.val at HC
                          clear hC
                          go_wp2_with fail
                          refine HC.out.mono ?_
                          rintro e w7 ⟨rfl, hm7⟩
                          have hA := hm7.below ((Below.refl _ w7).alloc (Nat.le_refl _) (eBlk x))
                          have hC2 := hA.second h1024 HFr0.out.size
                          simp only at hC2
                          have HC2 := Lib.hid hC2
                          unfold Ent.val eBlk at HC2
                          clear hm7 hA hC2
                          go_wp2_with fail
                          refine HC2.out.mono ?_
                          rintro e w8 ⟨rfl, hm8, hk8⟩
                          have hza : w8.heap[w7.heap.size]? = some (eBlk x) := hk8.box (World.alloc_heap_new w7 (eBlk x)) (.inl (by decide))
                          have hl8 : w7.heap.size < w8.heap.size := (Array.getElem?_eq_some_iff.1 hza).1
                          obtain ⟨z0, z1, z2, z3, z4⟩ := eBlk_cells hza
                          have n1 : ¬ (w8.heap.size = w7.heap.size) := by omega
                          have n2 : ¬ (w7.heap.size = w8.heap.size) := by omega
                          clear hza hk8
                          have HP9 := Lib.hid (hm8.below ((Below.refl _ w8).alloc (Nat.le_refl _) (eBlk x)))
                          have hFd9 : (w8.alloc (eBlk x)).ownsRow wo.heap.size 67 1 (.slice fp n fc) n (ps.map ptV) := by
                            obtain ⟨_, _, _, _, _, _, _, hkp⟩ := hm8
                            exact (hkp.own HFd.out (.inl (by decide))).alloc _
                          have HFd9 := Lib.hid hFd9
                          clear hm8 hFd9
                          go_wp2
                          have hzn : w8.alloc (eBlk x) = w8.alloc (Obj.cells #[.int .i64 x.v, .string x.c, .int .i64 x.i, .int .i64 x.s, .bool x.d] 24) := rfl
                          rw [hzn] at HP9 HFd9
                          generalize w8.alloc (Obj.cells #[.int .i64 x.v, .string x.c, .int .i64 x.i, .int .i64 x.s, .bool x.d] 24) = W9 at HP9 HFd9 ⊢
                          clear hzn z0 z1 z2 z3 z4 n1 n2 hl8
                          go_loopw [26] (fun iv wr => ∃ i : Nat, iv = .int .i64 i ∧ i ≤ n ∧ Hid (Below W9.heap.size W9 wr)) (fun iv _ => n - (intOf iv).toNat)
                          case atStart => exact ⟨0, rfl, Nat.zero_le _, Lib.hid (Below.refl _ _)⟩
                          case round =>
                            obtain ⟨i, rfl, hi, HBi⟩ := hrel
                            by_cases hlt : i < n
                            · obtain ⟨q, hq⟩ : ∃ q, ps[i]? = some q := ⟨_, List.getElem?_eq_getElem (by rw [HPS.out]; exact hlt)⟩
                              obtain ⟨g, rfl, hcg⟩ := HGf.out _ (own_belowAll HFd9.out HBi.out) i q hq
                              obtain ⟨u, g2, hcu, hcb, hcl⟩ := (HP9.out.below HBi.out).used hq hlt
                              have j0 : (0 : Int) ≤ (i : Int) := by omega
                              have j1 : (i : Int) < (n : Int) := by omega
                              have HB2' := Lib.hid (HBi.out.drew)
                              clear hq
                              go_wp2
                              go_quiet (fail)
                              go_wp2
                              go_roundw
                              case rel => exact ⟨i + 1, by go_num, by omega, Lib.hid (below_drewN HBi.out _)⟩
                              case measure => simp [intOf]; omega
                            · obtain rfl : n = i := by omega
                              have HPn := Lib.hid (HP9.out.below HBi.out)
                              go_wp2
                              go_roundw
                              case rel => exact ⟨k + 1, by go_num, by omega, HPn⟩
                              case measure => simp [intOf]; omega
                        · have hk4' : ¬ ((k : Int) < 400) := by omega
                          have HF := Lib.hid (hfin.out _ HP5.out)
                          go_wp2
                          go_ret
                          exact ⟨rfl, HF.out⟩
                      · have HF := Lib.hid (hfin.out _ HP5.out)
                        go_wp2
                        go_ret
                        exact ⟨rfl, HF.out⟩
          · go_wp2_with fail
            refine (New_many _ n _ bottom (by omega) (by omega) wv).mono ?_
            rintro e w3 ⟨rfl, rfl⟩
            go_wp2_with fail
            refine (RNew_many _ n _ bottom (by omega) (by omega) w3).mono ?_
            rintro e w4 ⟨rfl, rfl⟩
            have HFU4 : Hid (FulRel w4 B0 gF N capF (List.replicate 0 .nilFunc ++ (ps.map fdV ++ vals.drop n).drop 0) w4) := Lib.hid ⟨by
              simp only [List.replicate_zero, List.nil_append, List.drop_zero]
              exact HE2.out.1, Fr.refl _ _⟩
            go_wp2
            go_loopw [17] (fun iv wr => ∃ i : Nat, iv = .int .i64 i ∧ i ≤ n ∧ Hid (FulRel w4 B0 gF N capF (List.replicate i .nilFunc ++ (ps.map fdV ++ vals.drop n).drop i) wr)) (fun iv _ => n - (intOf iv).toNat)
            case atStart => exact ⟨0, rfl, Nat.zero_le _, HFU4⟩
            case round =>
              obtain ⟨i, rfl, hi, HI3⟩ := hrel
              by_cases hlt : i < n
              · obtain ⟨_, _, hl4, _, k4, k5⟩ := ful_src HI3.out.1
                have hf := k5 i
                obtain ⟨v0, hv0⟩ : ∃ v0, wr.cell? ⟨gF, i, none⟩ = some v0 := ⟨_, (k4 i (by omega)).trans (List.getElem?_eq_getElem (by omega))⟩
                have j0 : (0 : Int) ≤ (i : Int) := by omega
                have j1 : (i : Int) < (n : Int) := by omega
                have HR : Hid (FulRel w4 B0 gF N capF (List.replicate (i + 1) .nilFunc ++ (ps.map fdV ++ vals.drop n).drop (i + 1)) (wr.setCell ⟨gF, i, none⟩ .nilFunc)) := Lib.hid (by
                  have h := HI3.out.set i .nilFunc
                  rw [rep_drop_set (by rw [List.length_append, List.length_map, HPS.out]; omega)] at h
                  exact h)
                clear k4 k5 hl4
                go_wp2
                go_roundw
                case rel => exact ⟨i + 1, by go_num, by omega, HR⟩
                case measure => simp [intOf]; omega
              · obtain rfl : n = i := by omega
                have hX : List.replicate n Value.nilFunc ++ (ps.map fdV ++ vals.drop n).drop n = List.replicate n .nilFunc ++ vals.drop n := by
                  rw [List.drop_append_of_le_length (by rw [List.length_map, HPS.out]; omega), List.drop_of_length_le (by rw [List.length_map, HPS.out]; omega), List.nil_append]
                have hE := HI3.out
                rw [hX] at hE
                have HE := Lib.hid hE
                clear hE hX
                go_wp2
                have hFr0 : Fr w wr [some gF] := (((Fr.of_below HBO.out [some gF]).trans (Fr.of_below HB2.out [some gF])).trans HE2.out.2).trans HE.out.2
                have HF := Lib.hid (And.intro HE.out.1 hFr0)
                go_ret
                exact ⟨rfl, HF.out⟩
end Go.Proofs.Ytahdaccmokjgpaa

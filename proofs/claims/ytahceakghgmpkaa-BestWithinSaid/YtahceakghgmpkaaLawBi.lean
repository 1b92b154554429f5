/-
  THE LAW BestWithin, walked: a ball and a top.
-/
import Derived.Test.YtahceakghgmpkaaLawBw
import Derived.Deep.RegionHeld3
namespace Go.Proofs.Ytahceakghgmpkaa
open Go.RowKit ArgK
set_option linter.unusedVariables false

theorem allH_length (H : List Hv) : (allH H).length ≤ H.length := by
  have : ∀ (H S : List Hv), Ris S → (H.foldl insH S).length ≤ S.length + H.length := by
    intro H
    induction H with
    | nil => intro S _; simp
    | cons x H ih =>
      intro S hS
      have h1 := ih (insH S x) (ris_insH hS x)
      have h2 := insH_length hS x
      rw [List.foldl_cons, List.length_cons]
      split at h2 <;> omega
  simpa [allH] using this H [] List.Pairwise.nil

/-- Within r. -/
def near (r : Int) (x : Hv) : Bool := decide (x.d ≤ r)

theorem allH_filter (r : Int) (H : List Hv) : allH (H.filter (near r)) = (allH H).filter (near r) := by
  refine ris_ext (allH_ris _) (List.Pairwise.filter _ (allH_ris H)) (fun x => ?_)
  rw [allH_mem, List.mem_filter, List.mem_filter, allH_mem]

theorem near_prefix (r : Int) : ∀ (S : List Hv) (i : Nat) (x : Hv), Ris S → S[i]? = some x → x.d ≤ r → (S.filter (near r))[i]? = some x
  | [], _, _, _, h, _ => by simp at h
  | y :: S, 0, x, _, h, hr => by
    simp at h; subst h
    rw [List.filter_cons, if_pos (by simp [near]; exact hr)]
    rfl
  | y :: S, i + 1, x, hS, h, hr => by
    have hx : S[i]? = some x := by simpa using h
    obtain ⟨h1, h2⟩ := List.pairwise_cons.1 hS
    have hy := hless_d (h1 x (List.mem_of_getElem? hx))
    rw [List.filter_cons, if_pos (by simp [near]; omega)]
    exact near_prefix r S i x h2 hx hr

/-- What a ball keeps of hits. -/
theorem ball_snoc (r : Int) (H : List Hv) (x : Hv) : allH ((H ++ [x]).filter (near r)) = if x.d ≤ r then insH (allH (H.filter (near r))) x else allH (H.filter (near r)) := by
  rw [List.filter_append]
  by_cases h : x.d ≤ r
  · have : [x].filter (near r) = [x] := by simp [near, h]
    rw [this, allH_snoc, if_pos h]
  · have : [x].filter (near r) = [] := by simp [near, h]
    rw [this, List.append_nil, if_neg h]

/-- A ball and a top of the call's own that share nothing. -/
def BallTop (w : World) (tb tt : Nat) (r k : Int) (B T : List Hv) (wr : World) : Prop :=
  ∃ F G, Heap1 63 wr tb r B F ∧ Heap1 68 wr tt k T G ∧ (∀ x, F x → ¬ G x) ∧ Below w.heap.size w wr ∧ (∀ b, F b → w.heap.size ≤ b) ∧ ∀ b, G b → w.heap.size ≤ b

theorem BallTop.start {w w1 w2 : World} {tb tt : Nat} {r k : Int} {B T : List Hv} (h : Owned 63 w tb r B w1) (h2 : Owned 68 w1 tt k T w2) : BallTop w tb tt r k B T w2 := by
  obtain ⟨F, a1, a2, a3⟩ := h
  obtain ⟨G, b1, b2, b3⟩ := h2
  refine ⟨F, G, a1.below b2, b1, fun x hx hg => ?_, a2.trans (b2.mono a2.size), a3, fun b hb' => Nat.le_trans a2.size (b3 b hb')⟩
  have := a1.lt x hx
  have := b3 x hg
  omega

theorem BallTop.below {w w1 w2 : World} {tb tt : Nat} {r k : Int} {B T : List Hv} (h : BallTop w tb tt r k B T w1) (hb : Below w1.heap.size w1 w2) : BallTop w tb tt r k B T w2 := by
  obtain ⟨F, G, h1, h2, h3, h4, h5, h6⟩ := h
  exact ⟨F, G, h1.below hb, h2.below hb, h3, h4.trans (hb.mono h4.size), h5, h6⟩

theorem BallTop.bel {w w1 : World} {tb tt : Nat} {r k : Int} {B T : List Hv} (h : BallTop w tb tt r k B T w1) : Below w.heap.size w w1 := by
  obtain ⟨F, G, h1, h2, h3, h4, h5, h6⟩ := h
  exact h4

theorem BallTop.top {w w1 : World} {tb tt : Nat} {r k : Int} {B T : List Hv} (h : BallTop w tb tt r k B T w1) (hn : T.length * 32 ≤ 140737488355328) :
    Calls Try.prog 19 #[.pointer (some ⟨tt, 0, none⟩)] w1 (ListPost w1 T) := by
  obtain ⟨F, G, h1, h2, h3, h4, h5, h6⟩ := h
  exact top_list h2 hn

theorem BallTop.ball {w w1 : World} {tb tt : Nat} {r k : Int} {B T : List Hv} (h : BallTop w tb tt r k B T w1) (hn : B.length * 32 ≤ 140737488355328) :
    Calls Try.prog 35 #[.pointer (some ⟨tb, 0, none⟩)] w1 (ListPost w1 B) := by
  obtain ⟨F, G, h1, h2, h3, h4, h5, h6⟩ := h
  exact ball_list h1 hn

theorem BallTop.add {w w1 : World} {tb tt : Nat} {r k : Int} {B T : List Hv} (h : BallTop w tb tt r k B T w1) (x : Hv) (hg : GoodH x) (hn : (B.length + 1) * 32 ≤ 140737488355328) :
    Calls Try.prog 14 #[.pointer (some ⟨tb, 0, none⟩), x.val] w1 fun e w2 => e = .returned (.bool (decide (x.d ≤ r))) ∧ BallTop w tb tt r k (if x.d ≤ r then insH B x else B) T w2 := by
  obtain ⟨F, G, h1, h2, h3, h4, h5, h6⟩ := h
  refine (ball_add h1 x hg hn).mono fun e w2 hp => ?_
  obtain ⟨he, F', k1, k2, k3⟩ := hp
  refine ⟨he, F', G, k1, h2.keep k2 (fun b hb hF => h3 b hF hb), fun x hx hg => ?_, h4.trans (k2.below h4.size h5), fun x hx => ?_, h6⟩
  · rcases k3 x hx with h | h
    · exact h3 x h hg
    · have := h2.lt x hg; omega
  · rcases k3 x hx with h | h
    · exact h5 x h
    · exact Nat.le_trans h4.size h

/-- r, or 3. -/
def radI (r : Int) : Int := if r < 0 ∨ 1024 < r then 3 else r

theorem radI_bd (r : Int) : 0 ≤ radI r ∧ radI r ≤ 1024 := by unfold radI; split <;> omega

/-- The head of the second loop: those within, gathered. -/
def NearRel (wk : World) (m : Nat) (r : Int) (z : List Hv) (v si : Value) (wr : World) : Prop :=
  ∃ (a : Nat) (lv : Value), a ≤ m ∧ lv = v ∧ si = .int .i64 a ∧ wr.ownsRow wk.heap.size 34 3 lv ((z.take a).filter (near r)).length (encH ((z.take a).filter (near r))) ∧ Below wk.heap.size wk wr

theorem near_take {z : List Hv} {a : Nat} (h : a < z.length) (r : Int) : (z.take (a + 1)).filter (near r) = (z.take a).filter (near r) ++ (if (hd z a).d ≤ r then [hd z a] else []) := by
  rw [List.take_add_one, hd_get h, List.filter_append]
  congr 1
  by_cases h2 : (hd z a).d ≤ r <;> simp [near, h2]

/-- The head of the first loop: the hits handed to the ball. -/
def BRel (w : World) (tb tt m : Nat) (r k : Int) (z T : List Hv) (si : Value) (wr : World) : Prop :=
  ∃ a : Nat, a ≤ m ∧ si = .int .i64 a ∧ BallTop w tb tt r k (allH ((z.take a).filter (near r))) T wr

set_option maxRecDepth 100000 in
set_option maxHeartbeats 4000000 in
theorem BestWithin_walk (r0 : Int) (wr0 : (Lit.int .i64 r0).wf = true) (a0 : Int) (w0 : (Lit.int .i64 a0).wf = true) (v : Value) (z : List Hv) (w : World) (h1 : IsSl w 3 32 IsHit [v] z) :
    Calls Try.prog 10 #[.int .i64 r0, .int .i64 a0, v] w fun e w' => e = .returned (.bool true) ∧ Below w.heap.size w w' := by
  have hQ1 : Try.prog.eqGuardType Try.prog.depth 34 = false := by kernel_rfl
  obtain ⟨i0, hi0, hz0, hz1, hz2⟩ := info_parts hitinfo
  obtain ⟨hsz, p, cap, rfl, hHL, hgood⟩ := hits_of_arg h1
  obtain ⟨m, hm⟩ : ∃ m, z.length = m := ⟨_, rfl⟩
  obtain ⟨k, hk⟩ : ∃ k, fitI a0 = k := ⟨_, rfl⟩
  obtain ⟨r, hr⟩ : ∃ r, radI r0 = r := ⟨_, rfl⟩
  have hrb := radI_bd r0
  rw [hr] at hrb
  obtain ⟨hr0, hr1⟩ := hrb
  have hk4 : k ≤ 4096 := by rw [← hk]; exact fitI_le a0
  have hFit := fun W => fit_calls a0 W
  rw [hk] at hFit
  have hNB := Lib.hid (fun W => newBall_ok r hr0 hr1 W)
  have hFw := Lib.hid (fun W hW => handed_fwd p cap z k hk4 (by omega) hgood W hW)
  rw [hm] at hsz hFw ⊢
  have HFit := Lib.hid hFit
  have HM := Lib.hid hm
  have HR := Lib.hid hr
  have hHid := Lib.hid hHL
  have HGd := Lib.hid hgood
  clear h1 hHL hgood hk hFit hm hr
  go_enter Try.func10, Try.ntmps10
  go_wp2_with fail
  refine (begun_calls w).mono ?_
  rintro e w1 ⟨rfl, hb1⟩
  have HB1 := Lib.hid hb1
  clear hb1
  go_wp2_with fail
  refine (HFit.out _).mono ?_
  rintro e w1' ⟨rfl, rfl⟩
  obtain ⟨bb, hbb⟩ : ∃ bb, decide (r0 < 0 ∨ 1024 < r0) = bb := ⟨_, rfl⟩
  have hrr : r = if bb = true then 3 else r0 := by rw [← HR.out, ← hbb]; unfold radI; simp
  have HRR := Lib.hid hrr
  have HBB := Lib.hid hbb
  clear hrr hbb
  go_upto_region 3 with fail
  go_cut [26] (fun s wx => s = .bool bb ∧ wx = w1')
  case first =>
    by_cases c1 : r0 < 0
    · have e : bb = true := by rw [← HBB.out]; simp [c1]
      go_wp2_with fail
      go_meet
      exact ⟨by rw [e], rfl⟩
    · have d1 : decide (r0 < 0) = false := by simp; omega
      have e : bb = decide (1024 < r0) := by rw [← HBB.out]; simp [c1]
      go_wp2_with fail
      go_meet
      exact ⟨by rw [e], rfl⟩
  case rest =>
  obtain ⟨rfl, rfl⟩ := hcut
  go_upto_if 26 with fail
  go_cut [0] (fun s0 wx => s0 = .int .i64 r ∧ wx = wc)
  case first =>
    cases bb
    · go_wp2_with fail
      go_meet
      exact ⟨by rw [HRR.out]; simp, rfl⟩
    · go_wp2_with fail
      go_meet
      exact ⟨by rw [HRR.out]; simp, rfl⟩
  case rest =>
    obtain ⟨rfl, rfl⟩ := hcut
    obtain ⟨wq, rfl⟩ : ∃ x : World, x = wc := ⟨_, rfl⟩
    go_wp2_with fail
    refine (hNB.out _).mono ?_
    rintro e w2 ⟨tb, F, rfl, hT, hG, hF⟩
    have HO2 := Lib.hid (Owned.of_new (Below.refl wq.heap.size wq) hT hG hF)
    clear hT hG hF
    go_wp2_with fail
    refine (hFw.out _ (hHid.out.below (HB1.out.trans ((show Below wq.heap.size wq w2 from by obtain ⟨_, _, h, _⟩ := HO2.out; exact h).mono HB1.out.size)))).mono ?_
    rintro e w3 ⟨tt, rfl, hO3⟩
    have HP := Lib.hid (BallTop.start HO2.out hO3)
    clear hO3
    go_wp2
    go_loopw [11] (fun i ws => BRel wq tb tt m r (k : Int) z ((allH z).take k) i ws) (fun i _ => m - (intOf i).toNat)
    case atStart => exact ⟨0, Nat.zero_le _, rfl, HP.out⟩
    case round =>
      obtain ⟨a, ha, rfl, hP⟩ := hrel
      obtain ⟨wo, rfl⟩ : ∃ wo : World, wo = wr := ⟨_, rfl⟩
      have HPo := Lib.hid hP
      clear hP HP HO2
      by_cases hlt : a < m
      · have hal : a < z.length := by rw [HM.out]; exact hlt
        obtain ⟨x, hx⟩ : ∃ x, hd z a = x := ⟨_, rfl⟩
        have hzx := hd_get hal
        rw [hx] at hzx
        have hgx : GoodH x := HGd.out _ (List.mem_of_getElem? hzx)
        have hHo := Lib.hid (fun (W : World) (hW : Below wq.heap.size wq W) => hHid.out.below (HB1.out.trans (hW.mono HB1.out.size)))
        obtain ⟨pa, hpa, u0, u1, u2⟩ := hHo.out _ HPo.out.bel a _ hzx
        obtain rfl := hpa
        have hlen : ((allH ((z.take a).filter (near r))).length + 1) * 32 ≤ 140737488355328 := by
          have q1 := allH_length ((z.take a).filter (near r))
          have q2 := List.length_filter_le (near r) (z.take a)
          have q3 : (z.take a).length ≤ a := List.length_take_le _ _
          omega
        have hA := fun W (hW : BallTop wq tb tt r (k : Int) (allH ((z.take a).filter (near r))) ((allH z).take k) W) => hW.add x hgx hlen
        have e2 : (if x.d ≤ r then insH (allH ((z.take a).filter (near r))) x else allH ((z.take a).filter (near r))) = allH ((z.take (a + 1)).filter (near r)) := by
          rw [← ball_snoc, List.take_add_one, hzx]; rfl
        rw [e2] at hA
        have HA := Lib.hid hA
        have HZX := Lib.hid hzx
        have i0 : (0 : Int) ≤ (a : Int) := by omega
        have i1 : (a : Int) < (m : Int) := by omega
        have hU : Hid (∀ W, BallTop wq tb tt r (k : Int) (allH ((z.take (a + 1)).filter (near r))) ((allH z).take k) W → W.cell? (pa.add (a * 3)) = some (.int .i64 x.d) ∧ W.cell? ⟨(pa.add (a * 3)).block, (pa.add (a * 3)).off + 1, none⟩ = some (.int .i64 x.i) ∧ W.cell? ⟨(pa.add (a * 3)).block, (pa.add (a * 3)).off + 2, none⟩ = some (.string x.c)) := Lib.hid (fun W hW => by
          obtain ⟨pb, hpb, v0, v1, v2⟩ := hHo.out _ hW.bel a _ HZX.out
          obtain rfl : pa = pb := Option.some.inj hpb
          exact ⟨v0, v1, v2⟩)
        clear hA e2 hzx hlen hx
        generalize hD : decide (x.d ≤ r) = dd at HA
        have HD := Lib.hid hD
        clear hD
        go_wp2
        go_upto_region 12 with fail
        go_cut [68] (fun s wx => s = .bool false ∧ BallTop wq tb tt r (k : Int) (allH ((z.take (a + 1)).filter (near r))) ((allH z).take k) wx)
        case first =>
          have hLe : decide (x.d ≤ r) = dd := HD.out
          go_region_held3 (fun w' => w'.cell? (pa.add (a * 3)) = some (.int .i64 x.d) ∧ w'.cell? ⟨(pa.add (a * 3)).block, (pa.add (a * 3)).off + 1, none⟩ = some (.int .i64 x.i) ∧ w'.cell? ⟨(pa.add (a * 3)).block, (pa.add (a * 3)).off + 2, none⟩ = some (.string x.c))
            (first | exact ⟨u0, u1, u2⟩ | exact hU.out _ hP2)
            ((refine (HA.out _ (HPo.out.below ((Gr.refl wo).drew).below)).mono ?_; rintro e w4 ⟨rfl, hP2⟩))
          go_wp2_with fail
          go_meet
          exact ⟨by simp, hP2⟩
        case rest =>
          obtain ⟨rfl, hP2⟩ := hcut
          have HP2 := Lib.hid hP2
          clear hP2 u0 u1 u2
          go_wp2
          go_roundw
          case rel => first | exact ⟨a + 1, by omega, by go_num, HP2.out⟩ | ((repeat (with_reducible apply Exists.intro)); exact ⟨⟨a + 1, by omega, by go_num, HP2.out⟩, rfl⟩)
          case measure => simp [intOf]; omega
      · obtain rfl : a = m := by omega
        obtain ⟨ZF, hZF⟩ : ∃ ZF, z.filter (near r) = ZF := ⟨_, rfl⟩
        obtain ⟨B, hB⟩ : ∃ B, allH ZF = B := ⟨_, rfl⟩
        obtain ⟨T, hT⟩ : ∃ T, (allH z).take k = T := ⟨_, rfl⟩
        have hfull : z.take a = z := List.take_of_length_le (Nat.le_of_eq HM.out)
        have hP1 := HPo.out
        rw [hfull, hZF, hB, hT] at hP1
        have HP1 := Lib.hid hP1
        have hZl : ZF.length ≤ a := by rw [← hZF, ← HM.out]; exact List.length_filter_le _ _
        have hBl : B.length ≤ ZF.length := by rw [← hB]; exact allH_length ZF
        have hTl : T.length ≤ k := by rw [← hT]; simp; omega
        have hFi : FirstIs B ZF a := by
          have := firstIs_take ZF a
          rw [hB, List.take_of_length_le (by omega)] at this
          exact this
        have hPre : ∀ (i : Nat) (x : Hv), T[i]? = some x → x.d ≤ r → B[i]? = some x := fun i x hx hd' => by
          rw [← hB, ← hZF, allH_filter]
          refine near_prefix r _ i x (allH_ris z) ?_ hd'
          rw [← hT] at hx
          have hi := (List.getElem?_eq_some_iff.1 hx).1
          rw [List.getElem?_take_of_lt (by simp at hi; omega)] at hx
          exact hx
        have HFi := Lib.hid hFi
        have HPre := Lib.hid hPre
        have HZF := Lib.hid hZF
        have HZl := Lib.hid hZl
        have HBl := Lib.hid hBl
        clear hP1 hfull hFi hPre hZF hB hT
        go_wp2
        go_loopw [12, 13] (fun v i ws => NearRel wo a r z v i ws) (fun _ i _ => a - (intOf i).toNat)
        case atStart => exact ⟨0, _, Nat.zero_le _, rfl, rfl, ⟨rfl, .inl ⟨rfl, rfl⟩⟩, Below.refl _ _⟩
        case round =>
          obtain ⟨b, v, hb, rfl, rfl, hv, hbl⟩ := hrel
          obtain ⟨wi, rfl⟩ : ∃ wi : World, wi = wr := ⟨_, rfl⟩
          by_cases hbt : b < a
          · have hbz : b < z.length := by rw [HM.out]; exact hbt
            obtain ⟨x, hx⟩ : ∃ x, hd z b = x := ⟨_, rfl⟩
            have hzx := hd_get hbz
            rw [hx] at hzx
            have hnt := near_take hbz r
            rw [hx] at hnt
            obtain ⟨pa, hpa, u0, u1, u2⟩ := (hHid.out.below (HB1.out.trans (((HP1.out.bel).trans (hbl.mono HP1.out.bel.size)).mono HB1.out.size))) b _ hzx
            obtain rfl := hpa
            have i0' : (0 : Int) ≤ (b : Int) := by omega
            have i1' : (b : Int) < (a : Int) := by omega
            obtain ⟨F, hF⟩ : ∃ F, (z.take b).filter (near r) = F := ⟨_, rfl⟩
            rw [hF] at hv hnt
            have hFl : F.length ≤ b := by
              rw [← hF]
              have q2 := List.length_filter_le (near r) (z.take b)
              have q3 : (z.take b).length ≤ b := List.length_take_le _ _
              omega
            clear hzx hx hF
            by_cases hxr : x.d ≤ r
            · rw [if_pos hxr] at hnt
              have HNT := Lib.hid hnt
              have HBL := Lib.hid hbl
              have hsz1 := hbl.size
              have hva := hv.alloc (.cells #[.int .i64 x.d, .int .i64 x.i, .string x.c] 34)
              have hnews := World.news_of_block (cs := #[.int .i64 x.d, .int .i64 x.i, .string x.c]) (t := 34) (fr := (0, 0)) (heap_alloc_new wi (.cells #[.int .i64 x.d, .int .i64 x.i, .string x.c] 34))
              have hgO : ∀ g, v.ownBlock = some g → wo.heap.size ≤ g := fun g hg => (hv.lt g hg).1
              have HGO := Lib.hid hgO
              clear hnt hbl hgO
              go_wp2_with (at_builtin; refine wpList_append_lies _ rfl _ _ _ rfl wo.heap.size 34 i0 _ 3 32 Try.underlying23 hi0 hz0 hz1 hz2 rfl (by omega) v F.length (encH F) rfl hva ⟨wi.heap.size, 0, none⟩ 1 1 x.cells rfl rfl hnews (by simp [Value.oneCell', Hv.cells]) (by omega) (by unfold maxLen; omega) (by omega) (by simp; omega) (wi.heap.size + 1) (by simp) ?_)
              intro g cap' w5 hown5 hgrow5 hat5 hlt5
              have HFin : Hid (NearRel wo a r z (.slice (some ⟨g, 0, none⟩) (F.length + 1) cap') (.int .i64 (b + 1 : Nat)) w5) := Lib.hid (by
                refine ⟨b + 1, _, hbt, rfl, rfl, ?_, grown_below (HBL.out.trans (((Below.refl wi.heap.size wi).alloc (Nat.le_refl _) (.cells #[.int .i64 x.d, .int .i64 x.i, .string x.c] 34)).mono hsz1)) hgrow5 (by simp; omega) (fun q hq => HGO.out q hq)⟩
                rw [HNT.out, encH_snoc, List.length_append]
                exact hown5)
              clear hown5 hgrow5 hat5 hlt5 hva hnews hv u0 u1 u2
              go_wp2
              go_roundw
              case rel => exact HFin.out
              case measure => simp [intOf]; omega
            · rw [if_neg hxr, List.append_nil] at hnt
              have d3 : decide (x.d ≤ r) = false := by simp; omega
              have HFin : Hid (NearRel wo a r z v (.int .i64 (b + 1 : Nat)) wi) := Lib.hid ⟨b + 1, v, hbt, rfl, rfl, by rw [hnt]; exact hv, hbl⟩
              clear hnt hv hbl
              go_wp2
              go_roundw
              case rel => exact HFin.out
              case measure => simp [intOf]; omega
          · obtain rfl : b = a := by omega
            have hfull : z.take b = z := List.take_of_length_le (Nat.le_of_eq HM.out)
            rw [hfull, HZF.out] at hv
            have HP2 := Lib.hid (HP1.out.below hbl)
            obtain ⟨pv, cv, rfl, _⟩ := own_rd hv
            have HLv := Lib.hid (HL.of_own hv)
            clear hv hfull hbl
            go_wp2_with fail
            refine (HP2.out.ball (by have := HBl.out; have := HZl.out; omega)).mono ?_
            rintro e w6 ⟨l, rfl, ho6, hb6⟩
            have HP3 := Lib.hid (HP2.out.below hb6)
            have HLv6 := Lib.hid (HLv.out.below hb6)
            obtain ⟨pl, cl, rfl, _⟩ := own_rd ho6
            have HLl := Lib.hid (HL.of_own ho6)
            clear ho6 hb6
            go_wp2_with fail
            refine (first_calls pl pv cl cv B ZF b (by omega) (by have := HZl.out; omega) HFi.out w6 HLl.out HLv6.out).mono ?_
            rintro e w7 ⟨rfl, hg7⟩
            have HP4 := Lib.hid (HP3.out.below hg7.below)
            have HLl7 := Lib.hid (HLl.out.gr hg7)
            clear hg7
            go_wp2_with fail
            refine (HP4.out.top (by omega)).mono ?_
            rintro e w8 ⟨l2, rfl, ho8, hb8⟩
            have HB8 := Lib.hid (HB1.out.trans ((HP4.out.below hb8).bel.mono HB1.out.size))
            have HL8 := Lib.hid (HLl7.out.below hb8)
            obtain ⟨pt, ct, rfl, _⟩ := own_rd ho8
            have HLt := Lib.hid (HL.of_own ho8)
            obtain ⟨n, hn⟩ : ∃ n, T.length = n := ⟨_, rfl⟩
            obtain ⟨q, hq⟩ : ∃ q, B.length = q := ⟨_, rfl⟩
            have hBl2 := HBl.out
            have hZl2 := HZl.out
            rw [hq] at hBl2
            rw [hn] at hTl
            have HN := Lib.hid hn
            have HQ := Lib.hid hq
            have hqm : q ≤ 4398046511104 := by omega
            clear ho8 hb8
            rw [hn, hq]
            clear hn hq hBl2 hZl2
            go_wp2
            go_loopw [17] (fun i ws => ∃ c : Nat, c ≤ n ∧ i = .int .i64 c ∧ Gr w8 ws) (fun i _ => n - (intOf i).toNat)
            case atStart => exact ⟨0, Nat.zero_le _, rfl, Gr.refl _⟩
            case round =>
              obtain ⟨c, hc, rfl, hG⟩ := hrel
              by_cases hct : c < n
              · have hcT : c < T.length := by rw [HN.out]; exact hct
                obtain ⟨x, hx⟩ : ∃ x, hd T c = x := ⟨_, rfl⟩
                have htx := hd_get hcT
                rw [hx] at htx
                obtain ⟨pa, hpa, u0, u1, u2⟩ := (HLt.out.gr hG) c _ htx
                obtain rfl := hpa
                have j0 : (0 : Int) ≤ (c : Int) := by omega
                have j1 : (c : Int) < (n : Int) := by omega
                by_cases hxr : x.d ≤ r
                · have hbx := HPre.out c x htx hxr
                  have hcB : c < q := by rw [← HQ.out]; exact (List.getElem?_eq_some_iff.1 hbx).1
                  obtain ⟨pb, hpb, v0, v1, v2⟩ := (HL8.out.gr hG) c _ hbx
                  obtain rfl := hpb
                  have hNE : ∀ W, (binOp .neq 34 (.agg #[.int .i64 x.d, .int .i64 x.i, .string x.c]) (.agg #[.int .i64 x.d, .int .i64 x.i, .string x.c])).run Try.prog W = .ok (.bool false) W := fun W => by
                    have := neq_hit x x W
                    simp only [decide_true, Bool.not_true] at this
                    exact this
                  have j2 : (c : Int) < (q : Int) := by omega
                  have j3 : decide ((q : Int) ≤ (c : Int)) = false := by simp; omega
                  have j4 : decide (q ≤ c) = false := by simp; omega
                  clear htx hx hbx
                  go_wp2
                  go_quiet (fail)
                  have hG2 := hG.drewN nq
                  go_wp2
                  go_roundw
                  case rel => exact ⟨c + 1, by omega, by go_num, hG2⟩
                  case measure => simp [intOf]; omega
                · have d3 : decide (x.d ≤ r) = false := by simp; omega
                  clear htx hx
                  go_wp2
                  go_quiet (fail)
                  have hG2 := hG.drewN nq
                  go_wp2
                  go_roundw
                  case rel => exact ⟨c + 1, by omega, by go_num, hG2⟩
                  case measure => simp [intOf]; omega
              · obtain rfl : c = n := by omega
                have HE := Lib.hid (HB8.out.trans (hG.below.mono HB8.out.size))
                clear hG
                go_wp2
                go_ret
                exact ⟨rfl, HE.out⟩
end Go.Proofs.Ytahceakghgmpkaa

/-
  WALK: entries dealt to lists that rise (the law's own dealt).
-/
import Derived.Test.YtahdaccmokjgpaaLawLD
namespace Go.Proofs.Ytahdaccmokjgpaa
open Go.RowKit ArgK
set_option linter.unusedVariables false

theorem cell_ltE {w : World} {a : Addr} {v : Value} (h : w.cell? a = some v) : a.block < w.heap.size := by
  rcases Nat.lt_or_ge a.block w.heap.size with h' | h'
  · exact h'
  · rw [World.cell?, Array.getElem?_eq_none h'] at h
    simp at h

theorem turn_neg {q : Int} {m : Nat} (hm : m ≤ 60) (h : q.tmod ((m : Int) + 1) < 0) : ∃ k : Nat, Value.int .i64 (wrap64 (-q.tmod ((m : Int) + 1))) = .int .i64 k ∧ k ≤ m := by
  have h1 := Int.lt_tmod_of_pos q (show (0 : Int) < (m : Int) + 1 by omega)
  have h2 : wrap64 (-q.tmod ((m : Int) + 1)) = -q.tmod ((m : Int) + 1) := by
    have := IntKind.wrap_i64 (-q.tmod ((m : Int) + 1))
    unfold wrap64
    omega
  rw [h2]
  exact ⟨(-q.tmod ((m : Int) + 1)).toNat, by congr 1; omega, by omega⟩

theorem turn_pos {q : Int} {m : Nat} (hm : m ≤ 60) (h : ¬ q.tmod ((m : Int) + 1) < 0) : ∃ k : Nat, Value.int .i64 (q.tmod ((m : Int) + 1)) = .int .i64 k ∧ k ≤ m := by
  have h1 := Int.tmod_lt_of_pos q (show (0 : Int) < (m : Int) + 1 by omega)
  exact ⟨(q.tmod ((m : Int) + 1)).toNat, by congr 1; omega, by omega⟩

/-- At the head of each round over the entries. -/
def DeRel (w : World) (all : List Ent) (i : Nat) (lv : Value) (wr : World) : Prop :=
  ∃ lists, i ≤ all.length ∧ DL w.heap.size lv lists wr ∧ Dealt lists (all.take i) ∧ Below w.heap.size w wr

/-- At the head of each round that looks for a list. -/
def InRel (w : World) (all : List Ent) (i : Nat) (f : Nat) (lv kv dv : Value) (wr : World) : Prop :=
  Below w.heap.size w wr ∧ ∃ lists, DL w.heap.size lv lists wr ∧ ((dv = .bool false ∧ ∃ k : Nat, k ≤ lists.length ∧ kv = .int .i64 k ∧ Dealt lists (all.take i) ∧ lists.length + 2 ≤ f + k) ∨ (dv = .bool true ∧ Dealt lists (all.take (i + 1)) ∧ 1 ≤ f))

/-- Where the round stands ahead of the call of put. -/
def LkRel (w : World) (all : List Ent) (x : Ent) (i f : Nat) (lv kv : Value) (wx : World) : Prop :=
  Below w.heap.size w wx ∧ ∃ (lists : List (List Ent)) (k : Nat) (L : List Ent), lists[k]? = some L ∧ kv = .int .i64 k ∧ DL w.heap.size lv lists wx ∧ lists.length ≤ 61 ∧ L.length ≤ 4294967296 ∧
    (¬ there L x → Dealt (lists.set k (insL L x)) (all.take i ++ [x])) ∧ (there L x → Dealt lists (all.take i) ∧ lists.length + 2 ≤ f + k) ∧ 2 ≤ f

theorem Dealt.len {lists : List (List Ent)} {all : List Ent} (h : Dealt lists all) {k : Nat} {L : List Ent} (hL : lists[k]? = some L) : L.length ≤ all.length := by
  have h1 := h.2.1.length_eq
  have h2 : L.length ≤ lists.flatten.length := (List.sublist_flatten_of_mem (List.mem_of_getElem? hL)).length_le
  omega

theorem LkRel.old {w wr : World} {all : List Ent} {x : Ent} {i f k : Nat} {lv : Value} {lists : List (List Ent)} (hb : Below w.heap.size w wr) (hD : DL w.heap.size lv lists wr) (hk : k < lists.length) (hDe : Dealt lists (all.take i)) (hn : all.length ≤ 60) (hf : lists.length + 2 ≤ f + k) : LkRel w all x i f lv (.int .i64 k) wr := by
  have hL := List.getElem?_eq_getElem hk
  have hl := hDe.2.2
  have hll := hDe.len hL
  rw [List.length_take] at hl hll
  exact ⟨hb, lists, k, _, hL, rfl, hD, by omega, by omega, fun ht => hDe.put hL ht, fun _ => ⟨hDe, hf⟩, by omega⟩

theorem LkRel.new {w wr w' : World} {all : List Ent} {x : Ent} {i f : Nat} {lv : Value} {lists : List (List Ent)} (hb : Below w.heap.size w wr) (hD : DL w.heap.size lv (lists ++ [[]]) wr) (hDe : Dealt lists (all.take i)) (hn : all.length ≤ 60) (hf : 2 ≤ f) : LkRel w all x i f lv (.int .i64 lists.length) wr := by
  have hl := hDe.2.2
  rw [List.length_take] at hl
  refine ⟨hb, lists ++ [[]], lists.length, [], by simp, rfl, hD, by simp; omega, by simp, fun _ => hDe.new, fun ⟨y, hy, _⟩ => by simp at hy, hf⟩

/-- What dealt leaves. -/
def DeaPost (w : World) (all : List Ent) (e : Ending) (w' : World) : Prop := ∃ v lists, e = .returned v ∧ Below w.heap.size w w' ∧ DL w.heap.size v lists w' ∧ Dealt lists all

/-- What one look at a list does. -/
theorem InRel.look {w wr w1 : World} {all : List Ent} {i f k n c g : Nat} {x : Ent} {lists : List (List Ent)} {vs : List Value} {v : Value} {L : List Ent} {en : Ending} (hx : all[i]? = some x) (hb : Below w.heap.size w wr) (h1 : wr.ownsRow w.heap.size 25 1 (.slice (some ⟨g, 0, none⟩) n c) n vs) (hn : lists.length = n)
    (h2 : ∀ (i : Nat) (v : Value) (L : List Ent), vs[i]? = some v → lists[i]? = some L → wr.ownsRow w.heap.size 24 5 v L.length (encE L)) (hv : vs[k]? = some v) (hL : lists[k]? = some L) (hput : PutPost wr v L x en w1)
    (hD : ∀ t : ¬ there L x, Dealt (lists.set k (insL L x)) (all.take i ++ [x])) : Below w.heap.size w w1 ∧ (∀ o, wr.cell? ⟨g, k, none⟩ = some o → w1.cell? ⟨g, k, none⟩ = some o) ∧ (∀ o, w1.frozen? ⟨g, o, none⟩ = false) ∧
      ∃ p' n' c' b, en = .returned (.tuple #[.slice p' n' c', .bool b]) ∧ ((b = false ∧ there L x ∧ DL w.heap.size (.slice (some ⟨g, 0, none⟩) n c) lists w1) ∨ (b = true ∧ ∀ kv, 1 ≤ f → InRel w all i f (.slice (some ⟨g, 0, none⟩) n c) kv (.bool true) (w1.setCell ⟨g, k, none⟩ (.slice p' n' c')))) := by
  obtain ⟨hb1, hp⟩ := hput
  have hbw := hb.trans (hb1.mono hb.size)
  have hr1 := own_belowAll h1 hb1
  have hgl : g < wr.heap.size := (h1.lt g rfl).2
  refine ⟨hbw, fun o ho => (World.cell?_of_block (hb1.block g hgl)).trans ho, fun o => hr1.frozenAt o, ?_⟩
  rcases hp with ⟨ht, he⟩ | ⟨ht, v', he, ho⟩
  · obtain ⟨p', c', rfl, _⟩ := own_rd (h2 k v L hv hL)
    exact ⟨p', _, c', false, he, .inl ⟨rfl, ht, ⟨vs, by rw [hn]; exact hr1, fun i u K hu hK => own_belowAll (h2 i u K hu hK) hb1⟩⟩⟩
  · obtain ⟨p', c', rfl, _⟩ := own_rd ho
    refine ⟨p', _, c', true, he, .inr ⟨rfl, fun kv hf => ⟨hbw.setCell (p := ⟨g, k, none⟩) ((hr1.lt g rfl).1) _, lists.set k (insL L x), ?_, .inr ⟨rfl, ?_, hf⟩⟩⟩⟩
    · refine DL.set hr1 hn (fun i u K hu hK => own_belowAll (h2 i u K hu hK) hb1) ?_
      rw [insL_length]
      exact own_le ho hb.size
    · rw [take_getE hx]
      exact hD ht

set_option maxRecDepth 100000 in
set_option maxHeartbeats 4000000 in
theorem dealt_calls {w : World} {v tv : Value} {all : List Ent} {z : List Int} (hv : ESl w v all) (hn : all.length ≤ 60) (ht : XKit.IsRow w tv z) :
    Calls Try.prog 27 #[v, tv] w (DeaPost w all) := by
  obtain ⟨i0, hi0, hz0, hz1, hz2⟩ := info_parts (show (Try.prog.info? 25).map (fun i => (i.zero, i.size, i.bytes)) = some (some (.slice none 0 0), 1, 24) by kernel_rfl)
  obtain ⟨p, c, rfl, hp⟩ := hv
  obtain ⟨n, hln⟩ : ∃ n, all.length = n := ⟨_, rfl⟩
  have HLN := Lib.hid hln
  have HP := Lib.hid hp
  obtain ⟨hz1', hzw, hzr⟩ := ht
  obtain ⟨tp, tc, rfl, htr⟩ : ∃ tp tc, tv = .slice tp z.length tc ∧ ∀ i, i < z.length → ∃ a, tp = some a ∧ w.cell? (a.add i) = some (.int .i64 (z.getD i 0)) := by
    rcases hzr with ⟨rfl, rfl⟩ | ⟨a, cap, rfl, _, _, h⟩
    · exact ⟨none, 0, rfl, fun i hi => by simp at hi⟩
    · exact ⟨some a, cap, rfl, fun i hi => ⟨a, rfl, h i hi⟩⟩
  have HTR := Lib.hid htr
  have HZW := Lib.hid hzw
  obtain ⟨t, htl⟩ : ∃ t, z.length = t := ⟨_, rfl⟩
  have HTL := Lib.hid htl
  have H0 : Hid (DeRel w all 0 (.slice none 0 0) w) := Lib.hid ⟨[], Nat.zero_le _, ⟨[], own_none, fun i v L h => by simp at h⟩, ⟨by simp, by simp, by simp⟩, Below.refl _ _⟩
  rw [hln] at hn ⊢
  rw [htl] at hz1' ⊢
  clear hln hp htr hzr hzw htl
  go_enter Try.func27, Try.ntmps27
  go_wp2
  go_loopw [5, 6] (fun lv i wr => ∃ k : Nat, i = .int .i64 k ∧ DeRel w all k lv wr) (fun _ i _ => n - (intOf i).toNat)
  case atStart => exact ⟨0, rfl, H0.out⟩
  case round =>
    obtain ⟨lv, rfl⟩ : ∃ lv : Value, lv = u5 := ⟨_, rfl⟩
    obtain ⟨i, rfl, lists, hi, hDL, hDe, hbl⟩ := hrel
    obtain ⟨wo, rfl⟩ : ∃ wo : World, wo = wr := ⟨_, rfl⟩
    rw [HLN.out] at hi
    obtain ⟨m, hm⟩ : ∃ m, lists.length = m := ⟨_, rfl⟩
    obtain ⟨lp, lc, rfl⟩ : ∃ lp lc, lv = .slice lp m lc := by
      obtain ⟨vs, h1, _⟩ := hDL
      obtain ⟨lp, lc, e, _⟩ := own_rd h1
      exact ⟨lp, lc, by rw [e, hm]⟩
    by_cases hlt : i < n
    · obtain ⟨x, hx⟩ : ∃ x, all[i]? = some x := ⟨_, List.getElem?_eq_getElem (by rw [HLN.out]; exact hlt)⟩
      have hml : m ≤ 60 := by
        have := hDe.2.2
        rw [List.length_take, HLN.out, hm] at this
        omega
      have HIn : Hid (∀ k f : Nat, k ≤ m → m + 2 ≤ f + k → InRel w all i f (.slice lp m lc) (.int .i64 k) (.bool false) wo) := Lib.hid (fun k f hk hf => ⟨hbl, lists, hDL, .inl ⟨rfl, k, by omega, rfl, hDe, by omega⟩⟩)
      have hz' : 8 * t ≤ 140737488351232 := hz1'
      go_upto_region 6 with fail
      go_cut [25] from 11 to 68 (fun bv wx => wo = wx ∧ bv = .bool (decide (i < t) && decide (0 < m)))
      case first =>
        by_cases h1 : i < t
        · by_cases h2 : 0 < m
          · go_wp2_with fail
            go_meet
            exact ⟨rfl, by simp [h1, h2]⟩
          · go_wp2_with fail
            go_meet
            exact ⟨rfl, by simp [h2]⟩
        · go_wp2_with fail
          go_meet
          exact ⟨rfl, by simp [h1]⟩
      case rest =>
        obtain ⟨rfl, rfl⟩ := hcut
        go_upto_if 25 with fail
        go_cut [7] from 11 to 68 (fun kv wx => wo = wx ∧ ∃ k : Nat, kv = .int .i64 k ∧ k ≤ m)
        case first =>
          by_cases h1 : i < t
          · by_cases h2 : 0 < m
            · obtain ⟨ta, hta, hcell0⟩ := HTR.out i (by rw [HTL.out]; exact h1)
              subst hta
              have hcell := (hbl.cell (cell_ltE hcell0)).trans hcell0
              obtain ⟨q, hq⟩ : ∃ q, z.getD i 0 = q := ⟨_, rfl⟩
              rw [hq] at hcell
              clear hcell0 hq
              have hmp : (0 : Int) < (m : Int) := by omega
              have hmq : (m : Int) ≤ 60 := by omega
              have hm1 : ((m : Int) + 1 == 0) = false := by simp; omega
              have hwm : IntKind.i64.wrap ((m : Int) + 1) = (m : Int) + 1 := by rw [IntKind.wrap_i64]; omega
              go_wp2_with fail
              · go_meet
                exact ⟨rfl, turn_neg hml (by assumption)⟩
              · go_meet
                exact ⟨rfl, turn_pos hml (by first | assumption | exact Int.not_lt.2 (by assumption))⟩
            · go_wp2_with fail
              go_meet
              exact ⟨rfl, 0, rfl, Nat.zero_le _⟩
          · go_wp2_with fail
            go_meet
            exact ⟨rfl, 0, rfl, Nat.zero_le _⟩
        case rest =>
          obtain ⟨rfl, k0, rfl, hk0⟩ := hcut
          have hI0 := HIn.out k0 (m + 2) hk0 (by omega)
          go_wp2_with fail
          go_loopg [5, 7, 8] (m + 2) (fun f lv kv dv wr => InRel w all i f lv kv dv wr)
          case atStart => exact hI0
          case round =>
            clear hI0
            obtain ⟨hb2, ls, hD2, hway⟩ := hrel
            rcases hway with ⟨rfl, k, hkl, rfl, hDe2, hf⟩ | ⟨rfl, hDe2, hf⟩
            · obtain ⟨N, hN⟩ : ∃ N, ls.length = N := ⟨_, rfl⟩
              obtain ⟨lp2, lc2, rfl⟩ : ∃ lp lc, u5 = .slice lp N lc := by
                obtain ⟨vs, h1, _⟩ := hD2
                obtain ⟨lp, lc, e, _⟩ := own_rd h1
                exact ⟨lp, lc, by rw [e, hN]⟩
              have HN := Lib.hid hN
              have HLD := Lib.hid hDe2
              have HB2 := Lib.hid hb2
              have HD2 := Lib.hid hD2
              have hNl : N ≤ 60 := by
                have := hDe2.2.2
                rw [List.length_take, HLN.out, hN] at this
                omega
              rw [hN] at hkl hf
              have HF := Lib.hid hf
              have hxn := Lib.hid hx
              clear hDe2 hb2 hD2 hN hf HIn hDe hDL hbl hm hx hz'
              have hn60 : all.length ≤ 60 := by rw [HLN.out]; exact hn
              have HN6 := Lib.hid hn60
              clear hn60
              go_upto_if 43 with fail
              go_cut [5, 7] from 38 to 68 (fun lv kv wx => LkRel w all x i gk lv kv wx)
              case first =>
                by_cases hkn : k < N
                · have hki : (k : Int) < (N : Int) := by omega
                  have HL := Lib.hid (LkRel.old (x := x) HB2.out HD2.out (by rw [HN.out]; exact hkn) HLD.out HN6.out (by rw [HN.out]; exact HF.out))
                  go_wp2_with fail
                  go_meet
                  exact HL.out
                · obtain rfl : k = N := by omega
                  obtain ⟨vs, hw1, hw2⟩ := HD2.out
                  rw [HN.out] at hw1
                  have HV := Lib.hid hw1
                  have HV2 := Lib.hid hw2
                  have hsz := Lib.hid HB2.out.size
                  clear hw1 hw2
                  have chk1 : w.heap.size ≤ (wr.alloc (.cells #[.slice none 0 0] 25)).heap.size := by have := hsz.out; simp; omega
                  have chk2 : k + 1 ≤ maxLen := by unfold maxLen; omega
                  have chk3 : (k + 1) * 24 ≤ 140737488355328 := by omega
                  have hwk : IntKind.i64.wrap ((k : Int) + 1) = (k : Int) + 1 := by rw [IntKind.wrap_i64]; omega
                  go_wp2_with (at_builtin; refine wpList_append_own _ rfl _ _ 43 rfl w.heap.size 25 i0 (.slice none 0 0) 1 24 Try.underlying43 hi0 hz0 hz1 hz2 rfl (by decide) (.slice lp2 k lc2) k _ rfl (HV.out.alloc _) ⟨wr.heap.size, 0, none⟩ 1 1 [.slice none 0 0] rfl rfl (World.news_of_block (heap_alloc_new wr _)) (by simp [Value.oneCell']) chk2 chk3 chk1 ?_)
                  intro lv3 w3 hown3 hgrow3 _
                  obtain ⟨lp3, lc3, rfl⟩ : ∃ lp lc, lv3 = .slice lp (k + 1) lc := by
                    obtain ⟨lp, lc, e, _⟩ := own_rd hown3
                    exact ⟨lp, lc, e⟩
                  have HL := Lib.hid (LkRel.new (x := x) (f := gk) (w' := wr) ((HB2.out.alloc hsz.out _).grown hgrow3 chk1 (fun b hb => (HV.out.lt b hb).1)) (DL.grow (L := []) (by rw [HN.out]; exact HV.out) HV2.out own_none ((Below.refl _ _).alloc (Nat.le_refl _) _) hgrow3 (by rw [HN.out]; exact hown3)) HLD.out HN6.out (by have := HF.out; omega))
                  rw [HN.out] at HL
                  clear hown3 hgrow3 chk1 chk2 chk3
                  go_wp2_with fail
                  go_meet
                  exact HL.out
              case rest =>
                obtain ⟨hbC, L2, k2, K, hK, rfl, hDC, hlC, hlK, hNo, hYes, hg2⟩ := hcut
                obtain ⟨vs, hw1, hw2⟩ := hDC
                obtain ⟨N2, hN2⟩ : ∃ N2, L2.length = N2 := ⟨_, rfl⟩
                have hkn : k2 < N2 := by rw [← hN2]; exact (List.getElem?_eq_some_iff.1 hK).1
                rw [hN2] at hw1 hlC hYes
                obtain ⟨lq, lcq, rfl, hq1, _, hr⟩ := own_rd hw1
                obtain ⟨g, rfl, hgb, hgl, hgc, hgf⟩ := hr (by omega)
                obtain ⟨lv, hlv⟩ : ∃ lv, vs[k2]? = some lv := ⟨_, List.getElem?_eq_getElem (by have := hw1.1; omega)⟩
                have hcl : wc.cell? ⟨g, k2, none⟩ = some lv := (hgc k2 (by omega)).trans hlv
                obtain ⟨a, rfl, hc⟩ := HP.out i x hxn.out
                have fx := Five.of hc
                have hfx := fx.below hbC fx.lt
                obtain ⟨x0, x1, x2, x3, x4⟩ := hfx
                have C := lput_calls (w := wc.drew) x (hw2 k2 lv K hlv hK).drew hlK
                have hlook := fun (en : Ending) (w1 : World) (hput : PutPost wc.drew lv K x en w1) => InRel.look (f := gk - 1) hxn.out hbC.drew hw1.drew hN2 (fun i v L hv hL => (hw2 i v L hv hL).drew) hlv hK hput hNo
                have HC := Lib.hid C
                have HK := Lib.hid hlook
                have HY := Lib.hid hYes
                have HN2 := Lib.hid hN2
                have hkd := hcl
                unfold Ent.val at HC
                have j0 : (0 : Int) ≤ (k2 : Int) := by omega
                have j1 : (k2 : Int) < (N2 : Int) := by omega
                have j2 : (k2 : Int) ≤ 61 := by omega
                have j3 : (i : Int) < (n : Int) := by omega
                have HFX := Lib.hid fx
                have hlw := Lib.hid fx.lt
                have hsr : wc.cell? ⟨g, k2, none⟩ = some lv ∧ wc.cell? (a.add (i * 5)) = some (.int .i64 x.v) ∧ wc.cell? ⟨(a.add (i * 5)).block, (a.add (i * 5)).off + 1, none⟩ = some (.string x.c) ∧ wc.cell? ⟨(a.add (i * 5)).block, (a.add (i * 5)).off + 2, none⟩ = some (.int .i64 x.i) ∧ wc.cell? ⟨(a.add (i * 5)).block, (a.add (i * 5)).off + 3, none⟩ = some (.int .i64 x.s) ∧ wc.cell? ⟨(a.add (i * 5)).block, (a.add (i * 5)).off + 4, none⟩ = some (.bool x.d) := ⟨hcl, x0, x1, x2, x3, x4⟩
                have HSR := Lib.hid hsr
                clear hbC hK hlC hlK hNo hYes hw1 hw2 hr hgc hlv hc fx C hlook hN2 hgf hkd hsr
                go_wp2
                go_region_held3 (fun W => W.cell? ⟨g, k2, none⟩ = some lv ∧ W.cell? (a.add (i * 5)) = some (.int .i64 x.v) ∧ W.cell? ⟨(a.add (i * 5)).block, (a.add (i * 5)).off + 1, none⟩ = some (.string x.c) ∧ W.cell? ⟨(a.add (i * 5)).block, (a.add (i * 5)).off + 2, none⟩ = some (.int .i64 x.i) ∧ W.cell? ⟨(a.add (i * 5)).block, (a.add (i * 5)).off + 3, none⟩ = some (.int .i64 x.s) ∧ W.cell? ⟨(a.add (i * 5)).block, (a.add (i * 5)).off + 4, none⟩ = some (.bool x.d)) (first | exact HSR.out | exact HSR1.out)
                  (first | (go_at_call 43; refine HC.out.mono ?_; rintro en w1 hput; obtain ⟨hbw1, hkeep, hfz, p', n', c', b', rfl, hout⟩ := HK.out en w1 hput; have HSR1 := Lib.hid (And.intro (hkeep _ HSR.out.1) (HFX.out.below hbw1 hlw.out)); have HF1 := Lib.hid (hfz k2); have HO1 := Lib.hid hout; have HBw1 := Lib.hid hbw1; clear hput hkeep hfz hout hbw1))
                have hc1 := HSR1.out.1
                have hf1 := HF1.out
                cases b' with
                | false =>
                  have HR : Hid (InRel w all i (gk - 1) (.slice (some ⟨g, 0, none⟩) N2 lcq) (.int .i64 ((k2 : Int) + 1)) (.bool false) w1) := Lib.hid (by
                    rcases HO1.out with ⟨_, hth, hDL1⟩ | ⟨h, _⟩
                    · obtain ⟨hDe3, hf3⟩ := HY.out hth
                      exact ⟨HBw1.out, L2, hDL1, .inl ⟨rfl, k2 + 1, by rw [HN2.out]; omega, by go_num, hDe3, by rw [HN2.out]; omega⟩⟩
                    · cases h)
                  go_wp2
                  go_roundg (gk - 1)
                  case measure => omega
                  case rel => exact HR.out
                | true =>
                  have HR : Hid (∀ kv, InRel w all i (gk - 1) (.slice (some ⟨g, 0, none⟩) N2 lcq) kv (.bool true) (w1.setCell ⟨g, k2, none⟩ (.slice p' n' c'))) := Lib.hid (fun kv => by
                    rcases HO1.out with ⟨h, _⟩ | ⟨_, h⟩
                    · cases h
                    · exact h kv (by omega))
                  go_wp2
                  go_roundg (gk - 1)
                  case measure => omega
                  case rel => exact HR.out _
            · go_wp2
              go_roundw
              case rel => exact ⟨i + 1, by go_num, ls, by rw [HLN.out]; omega, hD2, hDe2, hb2⟩
              case measure => simp [intOf]; omega
    · obtain rfl : i = n := by omega
      have HE : Hid (DeaPost w all (.returned (.slice lp m lc)) wo) := Lib.hid ⟨_, lists, rfl, hbl, hDL, by rw [List.take_of_length_le (Nat.le_of_eq HLN.out)] at hDe; exact hDe⟩
      clear hDL hDe hbl hm
      go_wp2
      go_ret
      exact HE.out
end Go.Proofs.Ytahdaccmokjgpaa

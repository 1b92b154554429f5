/-
  WALK: the lists, the first entry of each with another word (the law's moved).
-/
import Derived.Test.YtahdaccmokjgpaaRfM
namespace Go.Proofs.Ytahdaccmokjgpaa
open Go.RowKit ArgK
set_option linter.unusedVariables false

-- the lemmas of LawMK and LawMU that MergeLists needs, without what they stand on (never import both)
theorem run_length (bottom : Bool) : ∀ (f : Nat) (m : Mst), (Mst.run bottom f m).1.length ≤ f
  | 0, m => by simp [Mst.run]
  | k + 1, m => by
    unfold Mst.run
    split
    · simp
    · split
      · simp
      · have := run_length bottom k (m.next bottom).2
        simp
        omega

theorem new_left (lists : List (List Ent)) : (Mst.new lists).left = lists.flatten.length + lists.length := by
  unfold Mst.left Mst.new
  simp only [List.map_map]
  induction lists with
  | nil => rfl
  | cons L l ih =>
    simp only [List.map_cons, List.sum_cons, List.flatten_cons, List.length_append, List.length_cons, Function.comp_apply]
    rw [ih]
    simp
    omega

theorem mergeM_length (lists : List (List Ent)) (bottom : Bool) : (mergeM lists bottom).1.length ≤ lists.flatten.length + lists.length + 1 := by
  have := run_length bottom ((Mst.new lists).left + 1) (Mst.new lists)
  rw [new_left] at this
  unfold mergeM
  rw [new_left]
  exact this

theorem swf_new {lists : List (List Ent)} (h : ∀ L ∈ lists, ∀ e ∈ L, (Lit.int .i64 e.s).wf = true) : SWf (Mst.new lists).S := by
  intro t ht e he
  unfold Mst.new at ht
  simp only [List.mem_map] at ht
  obtain ⟨s, ⟨L, hL, rfl⟩, rfl⟩ := ht
  exact h L hL e he

theorem el_block {W : World} {B g : Nat} {K : List Ent} (hg : g < B) (h : ∀ j, j < K.length * 5 → W.cell? ⟨g, j, none⟩ = (encE K)[j]?) : EL W B (some ⟨g, 0, none⟩) K := by
  intro i x hx
  have hi := (List.getElem?_eq_some_iff.1 hx).1
  refine ⟨⟨g, 0, none⟩, rfl, hg, Five.of (fun k hk => ?_)⟩
  rw [show (⟨g, 0, none⟩ : Addr).add (i * 5 + k) = ⟨g, i * 5 + k, none⟩ by unfold Addr.add; split <;> simp_all, h (i * 5 + k) (by omega)]
  exact encE_get K i x hx k hk

theorem el_own {W : World} {base n : Nat} {p : Option Addr} {c : Nat} {L : List Ent} (h : W.ownsRow base 24 5 (.slice p n c) n (encE L)) (hn : L.length = n) : EL W W.heap.size p L := by
  obtain ⟨q, d, e, _, _, hr⟩ := own_rd h
  simp only [Value.slice.injEq] at e
  obtain ⟨rfl, _, rfl⟩ := e
  by_cases h0 : 0 < n
  · obtain ⟨g, rfl, _, hg, hc, _⟩ := hr h0
    exact el_block hg (fun j hj => hc j (by omega))
  · intro i x hx
    have := (List.getElem?_eq_some_iff.1 hx).1
    omega

theorem DL.lls {B : Nat} {p : Option Addr} {n c : Nat} {lists : List (List Ent)} {W : World} (h : DL B (.slice p n c) lists W) : n = lists.length ∧ LLs W W.heap.size p lists := by
  obtain ⟨vs, h1, h2⟩ := h
  obtain ⟨q, d, e, _, _, hr⟩ := own_rd h1
  simp only [Value.slice.injEq] at e
  obtain ⟨rfl, hn, rfl⟩ := e
  refine ⟨hn, fun i L hL => ?_⟩
  have hi := (List.getElem?_eq_some_iff.1 hL).1
  obtain ⟨g, rfl, _, hg, hc, _⟩ := hr (by omega)
  obtain ⟨v, hv⟩ : ∃ v, vs[i]? = some v := ⟨_, List.getElem?_eq_getElem (by have := DL.vs_length h1; omega)⟩
  have ho := h2 i v L hv hL
  obtain ⟨q2, d2, rfl, hld, _⟩ := own_rd ho
  refine ⟨⟨g, 0, none⟩, q2, d2, rfl, hg, ?_, hld, el_own ho rfl⟩
  rw [show (⟨g, 0, none⟩ : Addr).add i = ⟨g, i, none⟩ by unfold Addr.add; split <;> simp_all, hc i (by omega)]
  exact hv

theorem entsinfoM : (Try.prog.info? 25).map (fun i => (i.zero, i.size, i.bytes)) = some (some (.slice none 0 0), 1, 24) := by kernel_rfl

def movedE (x : Ent) : Ent := ⟨x.v, x.c, x.i, x.s.tdiv 2, !x.d⟩
def movedL : List Ent → List Ent
  | [] => []
  | x :: r => movedE x :: r
theorem movedL_length (L : List Ent) : (movedL L).length = L.length := by cases L <;> rfl

/-- What a readable list's cells are. -/
theorem EL.news {w : World} {B : Nat} {p : Option Addr} {L : List Ent} (h : EL w B p L) : ∀ j u, (encE L)[j]? = some u → ∃ ad, p = some ad ∧ w.cell? (ad.add j) = some u := by
  intro j u hu
  have hj := (List.getElem?_eq_some_iff.1 hu).1
  rw [encE_length] at hj
  have hq : j / 5 < L.length := by omega
  obtain ⟨x, hx⟩ : ∃ x, L[j / 5]? = some x := ⟨_, List.getElem?_eq_getElem hq⟩
  obtain ⟨a, rfl, _, h0, h1, h2, h3, h4⟩ := h _ x hx
  refine ⟨a, rfl, ?_⟩
  have hk : j = j / 5 * 5 + j % 5 := by omega
  have hr : j % 5 < 5 := Nat.mod_lt _ (by decide)
  have hg := encE_get L (j / 5) x hx (j % 5) hr
  rw [← hk, hu] at hg
  rw [add_field _ _ _ (by decide)] at h1 h2 h3 h4
  rw [hk]
  generalize j / 5 * 5 = q at *
  generalize j % 5 = r at *
  rw [hg]
  rcases (show r = 0 ∨ r = 1 ∨ r = 2 ∨ r = 3 ∨ r = 4 by omega) with rfl | rfl | rfl | rfl | rfl
  · exact h0
  · exact h1
  · exact h2
  · exact h3
  · exact h4

/-- A nil list is of no length and of no capacity. -/
def NilOk (w : World) (p : Option Addr) (lists : List (List Ent)) : Prop := ∀ (i : Nat) (L : List Ent) (a : Addr) (c : Nat), lists[i]? = some L → p = some a → w.cell? (a.add i) = some (.slice none L.length c) → L.length = 0 ∧ c = 0

set_option maxRecDepth 100000 in
set_option maxHeartbeats 8000000 in
theorem moved_calls {w : World} {p : Option Addr} {n c : Nat} {lists : List (List Ent)} (hn : lists.length = n) (hm : n ≤ 1048576) (hL : LLs w w.heap.size p lists) (hz : ∀ L ∈ lists, L.length ≤ 1048576) (hs : ∀ L ∈ lists, ∀ x ∈ L, (Lit.int .i64 x.s).wf = true) (hnil : NilOk w p lists) :
    Calls Try.prog 19 #[.slice p n c] w fun e w' => ∃ v, e = .returned v ∧ DL w.heap.size v (lists.map movedL) w' ∧ Below w.heap.size w w' := by
  obtain ⟨i0, hi0, hz0, hz1, hz2⟩ := info_parts entinfo
  obtain ⟨i1, hi1, hy0, hy1, hy2⟩ := info_parts entsinfoM
  have HN := Lib.hid hn
  have HL := Lib.hid hL
  have HZ := Lib.hid hz
  have HS := Lib.hid hs
  have HNil := Lib.hid hnil
  clear hn hL hz hs hnil
  go_enter Try.func19, Try.ntmps19
  go_wp2
  go_loopw [3, 4] (fun ov iv wr => ∃ i : Nat, iv = .int .i64 i ∧ i ≤ n ∧ DL w.heap.size ov ((lists.take i).map movedL) wr ∧ Below w.heap.size w wr) (fun _ iv _ => n - (intOf iv).toNat)
  case atStart => exact ⟨0, rfl, Nat.zero_le _, ⟨[], World.ownsRow_nil _ _ _ _, fun i v L h => by simp at h⟩, Below.refl _ _⟩
  case round =>
    obtain ⟨i, rfl, hi, hD, hb⟩ := hrel
    obtain ⟨vs, ho1, ho2⟩ := hD
    have hlen : ((lists.take i).map movedL).length = i := by rw [List.length_map, List.length_take, HN.out]; omega
    rw [hlen] at ho1
    obtain ⟨op, oc, rfl, _⟩ := own_rd ho1
    have HO1 := Lib.hid ho1
    have HO2 := Lib.hid ho2
    have HB := Lib.hid hb
    have HLen := Lib.hid hlen
    by_cases hlt : i < n
    · obtain ⟨L, hLi⟩ : ∃ L, lists[i]? = some L := ⟨_, List.getElem?_eq_getElem (by rw [HN.out]; exact hlt)⟩
      obtain ⟨pa, q, ci, rfl, hpa, hci, hlci, he⟩ := HL.out i L hLi
      have hzi := HZ.out L (List.mem_of_getElem? hLi)
      have hqn : q = none → L.length = 0 ∧ ci = 0 := fun h => HNil.out i L pa ci hLi rfl (by rw [← h]; exact hci)
      have hci2 := (World.cell?_of_block (hb.block _ (by rw [add_blockE]; exact hpa))).trans hci
      have HNews := Lib.hid (he.below hb (Nat.le_refl _)).news
      have HTk : Hid ((lists.take (i + 1)).map movedL = (lists.take i).map movedL ++ [movedL L]) := Lib.hid (by rw [List.take_add_one, hLi]; simp)
      have HSl := Lib.hid (HS.out L (List.mem_of_getElem? hLi))
      have hsz := hb.size
      obtain ⟨m, hmm⟩ : ∃ m, L.length = m := ⟨_, rfl⟩
      rw [hmm] at hci2 hzi hqn hlci
      have HM := Lib.hid hmm
      have HLe : Hid ((encE L).length = m * 5) := Lib.hid (by rw [encE_length, hmm])
      have HQ := Lib.hid hqn
      have hi1' : (i : Int) < (n : Int) := by omega
      have hi0' : (0 : Int) ≤ (i : Int) := by omega
      clear hLi he hci hb ho1 ho2 hlen hmm hqn
      go_wp2_with (at_builtin; refine wpList_append_opt rfl _ _ 25 rfl wr.heap.size 24 i0 _ 5 48 Try.underlying25 hi0 hz0 hz1 hz2 rfl (by decide) (.slice none 0 0) 0 [] rfl (World.ownsRow_nil _ _ _ _) q m ci (encE L) rfl HQ.out HLe.out HNews.out encE_mem_one (by unfold maxLen; omega) (by omega) (Nat.le_refl _) ?_)
      intro v1 w1 hown1 hg1
      have hb1 : Below wr.heap.size wr w1 := ⟨hg1.os, hg1.tape, hg1.output, hg1.size, fun k hk => hg1.block k hk (by simp [Value.ownBlock])⟩
      have hown1 : w1.ownsRow wr.heap.size 24 5 v1 m (encE L) := by simpa using hown1
      obtain ⟨p1, c1, rfl, _⟩ := own_rd hown1
      have HB1 := Lib.hid hb1
      have HO := Lib.hid hown1
      clear hown1 hg1 hb1
      have hgo : ∀ (W : World) (M : List Ent), M.length = m → Below wr.heap.size wr W → W.ownsRow wr.heap.size 24 5 (.slice p1 m c1) m (encE M) → movedL L = M → ∀ (o : Obj) (v' : Value) (w' : World), (W.alloc o).grownBy w' (Value.slice op i oc).ownBlock → w'.ownsRow w.heap.size 25 1 v' (i + 1) (vs ++ [.slice p1 m c1]) → DL w.heap.size v' ((lists.take (i + 1)).map movedL) w' ∧ Below w.heap.size w w' := fun W M hMl hbW hoW hMe o v' w' hg' ho' => by
        have ha : Below wr.heap.size wr (W.alloc o) := hbW.alloc hbW.size o
        rw [HTk.out, hMe]
        have hrow := hoW.alloc o
        refine ⟨DL.grow (lv := .slice op i oc) (by rw [HLen.out]; exact HO1.out) HO2.out (by rw [hMl]; exact own_le hrow hsz) ha hg' (by rw [HLen.out]; exact ho'), ?_⟩
        have hb2 := HB.out.trans (ha.mono hsz)
        exact hb2.grown hg' hb2.size (fun j e => (HO1.out.lt j e).1)
      have HGo := Lib.hid hgo
      clear hgo
      by_cases hm0 : m = 0
      · subst hm0
        have hL0 : L = [] := List.eq_nil_of_length_eq_zero HM.out
        have HG1 := Lib.hid (HGo.out w1 [] rfl HB1.out (by have := HO.out; rw [hL0] at this; exact this) (by rw [hL0]; rfl))
        have hq := Lib.hid ((own_belowAll HO1.out HB1.out).alloc (.cells #[.slice p1 0 c1] 25))
        have hnews := Lib.hid (World.news_of_block (World.alloc_heap_new w1 (.cells #[.slice p1 0 c1] 25)))
        have hs1 := HB1.out.size
        clear hL0
        go_wp2_with (at_builtin; refine wpList_append_own _ rfl _ _ 43 rfl w.heap.size 25 i1 _ 1 24 Try.underlying43 hi1 hy0 hy1 hy2 rfl (by decide) (.slice op i oc) i _ rfl hq.out ⟨w1.heap.size, 0, none⟩ 1 1 [.slice p1 0 c1] rfl rfl hnews.out (by simp [Value.oneCell']) (by unfold maxLen; omega) (by omega) (by simp; omega) ?_; intro v6 w6 hown6 hgrow6 _)
        have h2 := HG1.out _ v6 w6 hgrow6 hown6
        exact ⟨⟨i + 1, by go_num, hlt, h2.1, h2.2⟩, by simp [intOf]; omega⟩
      · obtain ⟨g1, rfl, hg1⟩ := own_some2 HO.out (by omega)
        obtain ⟨x, r, hLx⟩ : ∃ x r, L = x :: r := by
          cases L with
          | nil => exact absurd HM.out.symm hm0
          | cons x r => exact ⟨x, r, rfl⟩
        obtain ⟨e0, e1, e2, e3, e4⟩ := own_fiveE HO.out (j := 0) (x := x) (by rw [hLx]; rfl)
        have hf3 := HO.out.frozenAt 3
        have hf4 := HO.out.frozenAt 4
        have hm1 : (0 : Int) < (m : Int) := by omega
        have hwf := HSl.out x (by rw [hLx]; simp)
        have hw2 : IntKind.i64.wrap (x.s.tdiv 2) = x.s.tdiv 2 := by
          simp [Lit.wf] at hwf
          have hbd : -9223372036854775808 ≤ x.s.tdiv 2 ∧ x.s.tdiv 2 ≤ 9223372036854775807 := by
            rcases Int.le_total 0 x.s with h | h
            · rw [Int.tdiv_eq_ediv_of_nonneg h]; omega
            · obtain ⟨y, hy⟩ : ∃ y, x.s = -y := ⟨-x.s, by omega⟩
              have hy0 : 0 ≤ y := by omega
              have hy1 : y ≤ 9223372036854775808 := by
                obtain ⟨h1, h2⟩ := hwf
                have hmn : IntKind.i64.min = -9223372036854775808 := by rfl
                omega
              rw [hy, Int.neg_tdiv, Int.tdiv_eq_ediv_of_nonneg hy0]
              clear hwf hy
              omega
          rw [IntKind.wrap_i64]
          omega
        have hst := ((HO.out.stored 3 (.int .i64 (x.s.tdiv 2))).1.stored 4 (.bool !x.d)).1
        have hbS : Below wr.heap.size wr ((w1.setCell ⟨g1, 3, none⟩ (.int .i64 (x.s.tdiv 2))).setCell ⟨g1, 4, none⟩ (.bool !x.d)) := (HB1.out.setCell (p := ⟨g1, 3, none⟩) hg1 _).setCell (p := ⟨g1, 4, none⟩) hg1 _
        have hmv : movedL L = movedE x :: r := by rw [hLx]; rfl
        have hml : (movedE x :: r).length = m := by have := HM.out; rw [hLx] at this; exact this
        have hen : ((encE L).set 3 (.int .i64 (x.s.tdiv 2))).set 4 (.bool !x.d) = encE (movedE x :: r) := by rw [hLx, encE_cons, encE_cons]; rfl
        rw [hen] at hst
        have HG1 := Lib.hid (HGo.out _ (movedE x :: r) hml hbS hst hmv)
        have HST := Lib.hid hst
        have HBS := Lib.hid hbS
        simp only [Nat.zero_mul, Nat.zero_add] at e0 e1 e2 e3 e4
        clear hst hbS hen hml hmv hLx hwf
        obtain ⟨WS, hWS⟩ : ∃ W, (w1.setCell ⟨g1, 3, none⟩ (.int .i64 (x.s.tdiv 2))).setCell ⟨g1, 4, none⟩ (.bool !x.d) = W := ⟨_, rfl⟩
        rw [hWS] at HG1 HST HBS
        have hq := Lib.hid ((own_belowAll HO1.out HBS.out).alloc (.cells #[.slice (some ⟨g1, 0, none⟩) m c1] 25))
        have hnews := Lib.hid (World.news_of_block (World.alloc_heap_new WS (.cells #[.slice (some ⟨g1, 0, none⟩) m c1] 25)))
        have hs1 := HBS.out.size
        go_wp2_with (at_builtin; refine wpList_append_own _ rfl _ _ 43 rfl w.heap.size 25 i1 _ 1 24 Try.underlying43 hi1 hy0 hy1 hy2 rfl (by decide) (.slice op i oc) i _ rfl hq.out ⟨WS.heap.size, 0, none⟩ 1 1 [.slice (some ⟨g1, 0, none⟩) m c1] rfl rfl hnews.out (by simp [Value.oneCell']) (by unfold maxLen; omega) (by omega) (by simp; omega) ?_; intro v6 w6 hown6 hgrow6 _)
        have h2 := HG1.out _ v6 w6 hgrow6 hown6
        exact ⟨⟨i + 1, by go_num, hlt, h2.1, h2.2⟩, by simp [intOf]; omega⟩
    · obtain rfl : i = n := by omega
      have hall : (lists.take i).map movedL = lists.map movedL := by rw [List.take_of_length_le (by rw [HN.out]; exact Nat.le_refl _)]
      rw [hall] at HO2 HLen
      have HD : Hid (DL w.heap.size (.slice op i oc) (lists.map movedL) wr) := Lib.hid ⟨vs, by rw [HLen.out]; exact HO1.out, HO2.out⟩
      have hnl : ¬ ((i : Int) < (i : Int)) := by omega
      clear hb ho1 ho2 hlen hall
      go_wp2
      go_ret
      exact ⟨_, rfl, HD.out, HB.out⟩
end Go.Proofs.Ytahdaccmokjgpaa

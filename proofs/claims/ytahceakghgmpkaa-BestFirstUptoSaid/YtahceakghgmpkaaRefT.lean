/-
  CONTRACTS of the document's tops and balls.
-/
import Derived.Test.YtahceakghgmpkaaRefH
import Derived.Test.YtahceakghgmpkaaFirst
import Derived.Deep.RegionLaw
import Derived.Deep.DeepCutAuto
namespace Go.Proofs.Ytahceakghgmpkaa
open Go.RowKit
set_option linter.unusedVariables false

/-- Block ub is a box of n and of the list S, which lies in a row of its own. -/
def RefIs (ty : TypeId) (w : World) (ub : Nat) (n : Int) (S : List Hv) (G : Nat → Prop) : Prop :=
  ∃ l, w.heap[ub]? = some (.cells #[.int .i64 n, l] ty (0, 0)) ∧ w.ownsRow 0 34 3 l S.length (encH S) ∧ Ris S ∧ (S = [] → l = .slice none 0 0) ∧ G = (fun b => b = ub ∨ l.ownBlock = some b)

theorem RefIs.lt {ty : TypeId} {w : World} {ub : Nat} {n : Int} {S : List Hv} {G : Nat → Prop} (h : RefIs ty w ub n S G) : ∀ b, G b → b < w.heap.size := by
  obtain ⟨l, h1, h2, h3, h4, rfl⟩ := h
  rintro b (rfl | hb)
  · exact (Array.getElem?_eq_some_iff.1 h1).1
  · exact (h2.lt b hb).2

theorem RefIs.keep {ty : TypeId} {w w' : World} {ub : Nat} {n : Int} {S : List Hv} {G F : Nat → Prop} (h : RefIs ty w ub n S G) (hf : FrP w w' F) (hd : ∀ b, G b → ¬ F b) : RefIs ty w' ub n S G := by
  obtain ⟨l, h1, h2, h3, h4, rfl⟩ := h
  refine ⟨l, (hf.2.2.2.2 ub (Array.getElem?_eq_some_iff.1 h1).1 (hd _ (.inl rfl))).trans h1, ?_, h3, h4, rfl⟩
  refine ⟨h2.1, ?_⟩
  rcases h2.2 with hn | ⟨g, cap, cur, rfl, hbg, hg, rest⟩
  · exact .inl hn
  · exact .inr ⟨g, cap, cur, rfl, hbg, (hf.2.2.2.2 g (Array.getElem?_eq_some_iff.1 hg).1 (hd g (.inr rfl))).trans hg, rest⟩

theorem RefIs.below {ty : TypeId} {w w' : World} {ub : Nat} {n : Int} {S : List Hv} {G : Nat → Prop} (h : RefIs ty w ub n S G) (hb : Below w.heap.size w w') : RefIs ty w' ub n S G :=
  h.keep (FrP.of_below (F := fun _ => False) hb) (fun _ _ => id)

/-- What New leaves. -/
def RefNew (ty : TypeId) (w : World) (n : Int) (e : Ending) (w' : World) : Prop :=
  ∃ ub G, e = .returned (.tuple #[.pointer (some ⟨ub, 0, none⟩), .int .i64 0]) ∧ RefIs ty w' ub n [] G ∧ Gr w w' ∧ ∀ b, G b → w.heap.size ≤ b

theorem refNew_post (w : World) (ty : TypeId) (n : Int) : RefNew ty w n (.returned (.tuple #[.pointer (some ⟨w.heap.size, 0, none⟩), .int .i64 0])) (w.alloc (.cells #[.int .i64 n, .slice none 0 0] ty)) := by
  refine ⟨w.heap.size, _, rfl, ⟨.slice none 0 0, World.alloc_heap_new w _, ⟨rfl, .inl ⟨rfl, rfl⟩⟩, List.Pairwise.nil, fun _ => rfl, rfl⟩, (Gr.refl w).alloc _, ?_⟩
  rintro b (rfl | h)
  · exact Nat.le_refl _
  · cases h

theorem rNewTop_ok (k : Int) (h0 : 0 ≤ k) (h1 : k ≤ 4096) (w : World) : Calls Try.prog 24 #[.int .i64 k] w (RefNew 77 w k) := by
  have hb2 : ∀ (W : World), (Instr.build 77 #[(0, .int .i64 k)]).run Try.prog W = .ok (.agg #[.int .i64 k, .slice none 0 0]) W := fun W => run_build W _ _ _ (by kernel_rfl)
  have z0 : decide (k < 0) = false := by simp; omega
  have z1 : decide (4096 < k) = false := by simp; omega
  have HP := Lib.hid (refNew_post w 77 k)
  go_enter Try.func24, Try.ntmps24
  go_wp2
  go_ret2
  exact HP.out

theorem rNewTop_bad (k : Int) (h : k < 0 ∨ 4096 < k) (w : World) : Calls Try.prog 24 #[.int .i64 k] w fun e w' => e = .returned (.tuple #[.pointer none, .int .i64 100]) ∧ w' = w := by
  go_enter Try.func24, Try.ntmps24
  rcases h with h | h
  · go_wp2
    go_ret2
    exact ⟨rfl, rfl⟩
  · have h2 : decide (k < 0) = false := by simp; omega
    go_wp2
    go_ret2
    exact ⟨rfl, rfl⟩

theorem rNewBall_ok (k : Int) (h0 : 0 ≤ k) (h1 : k ≤ 1024) (w : World) : Calls Try.prog 12 #[.int .i64 k] w (RefNew 65 w k) := by
  have hb2 : ∀ (W : World), (Instr.build 65 #[(0, .int .i64 k)]).run Try.prog W = .ok (.agg #[.int .i64 k, .slice none 0 0]) W := fun W => run_build W _ _ _ (by kernel_rfl)
  have z0 : decide (k < 0) = false := by simp; omega
  have z1 : decide (1024 < k) = false := by simp; omega
  have HP := Lib.hid (refNew_post w 65 k)
  go_enter Try.func12, Try.ntmps12
  go_wp2
  go_ret2
  exact HP.out

theorem rNewBall_bad (k : Int) (h : k < 0 ∨ 1024 < k) (w : World) : Calls Try.prog 12 #[.int .i64 k] w fun e w' => e = .returned (.tuple #[.pointer none, .int .i64 101]) ∧ w' = w := by
  go_enter Try.func12, Try.ntmps12
  rcases h with h | h
  · go_wp2
    go_ret2
    exact ⟨rfl, rfl⟩
  · have h2 : decide (k < 0) = false := by simp; omega
    go_wp2
    go_ret2
    exact ⟨rfl, rfl⟩

/-- What cut answers. -/
def CutPost (w : World) (S : List Hv) (k : Nat) (e : Ending) (w' : World) : Prop :=
  ∃ v, e = .returned v ∧ w'.ownsRow w.heap.size 34 3 v (S.take k).length (encH (S.take k)) ∧ Below w.heap.size w w'

/-- The head of cut's loop. -/
def CutRel (w : World) (S : List Hv) (n k : Nat) (v i : Value) (wr : World) : Prop :=
  ∃ (a : Nat) (lv : Value), a ≤ n ∧ a ≤ k ∧ lv = v ∧ i = .int .i64 a ∧ wr.ownsRow w.heap.size 34 3 lv a (encH (S.take a)) ∧ Below w.heap.size w wr

set_option maxRecDepth 100000 in
set_option maxHeartbeats 2000000 in
theorem cut_calls (p : Option Addr) (c : Nat) (S : List Hv) (k : Nat) (hk : k ≤ 4611686018427387904) (hN : S.length * 32 ≤ 140737488355328) (w : World) (h : HL w p S) :
    Calls Try.prog 46 #[.slice p S.length c, .int .i64 (k : Int)] w (CutPost w S k) := by
  obtain ⟨i0, hi0, hz0, hz1, hz2⟩ := info_parts hitinfo
  obtain ⟨n, hn⟩ : ∃ n, S.length = n := ⟨_, rfl⟩
  rw [hn] at hN ⊢
  have HN := Lib.hid hn
  have HH := Lib.hid h
  have hn63 : n ≤ 4398046511104 := by omega
  clear hn h
  go_enter Try.func46, Try.ntmps46
  go_wp2
  go_loopw [5, 6] (fun v i ws => CutRel w S n k v i ws) (fun _ i _ => n - (intOf i).toNat)
  case atStart => exact ⟨0, _, Nat.zero_le _, Nat.zero_le _, rfl, rfl, ⟨rfl, .inl ⟨rfl, rfl⟩⟩, Below.refl _ _⟩
  case round =>
    obtain ⟨a, v, ha, hak, rfl, rfl, hv, hb⟩ := hrel
    obtain ⟨wo, rfl⟩ : ∃ wo : World, wo = wr := ⟨_, rfl⟩
    have i0' : (0 : Int) ≤ (a : Int) := by omega
    have HEnd : Hid (S.take a = S.take k → CutPost w S k (.returned v) wo) := Lib.hid (fun h1 => by
      have e : (S.take a).length = a := by rw [List.length_take, HN.out]; omega
      refine ⟨v, rfl, ?_, hb⟩
      rw [← h1, e]
      exact hv)
    by_cases hlt : a < n
    · by_cases hltk : a < k
      · have hal : a < S.length := by rw [HN.out]; exact hlt
        obtain ⟨x, hx⟩ : ∃ x, hd S a = x := ⟨_, rfl⟩
        have hxS := hd_get hal
        rw [hx] at hxS
        obtain ⟨pa, hpa, u0, u1, u2⟩ := (HH.out.below hb) a _ hxS
        obtain rfl := hpa
        have i1 : (a : Int) < (n : Int) := by omega
        have i2 : (a : Int) < (k : Int) := by omega
        have hnt : S.take (a + 1) = S.take a ++ [x] := by rw [List.take_add_one, hxS]; rfl
        have HNT := Lib.hid hnt
        have HB := Lib.hid hb
        have hsz := hb.size
        have hva := hv.alloc (.cells #[.int .i64 x.d, .int .i64 x.i, .string x.c] 34)
        have hnews := World.news_of_block (cs := #[.int .i64 x.d, .int .i64 x.i, .string x.c]) (t := 34) (fr := (0, 0)) (heap_alloc_new wo (.cells #[.int .i64 x.d, .int .i64 x.i, .string x.c] 34))
        have HGO := Lib.hid (fun g (hg : v.ownBlock = some g) => (hv.lt g hg).1)
        clear hnt hb hx hxS HEnd
        go_wp2_with (at_builtin; refine wpList_append_lies _ rfl _ _ _ rfl w.heap.size 34 i0 _ 3 32 Try.underlying23 hi0 hz0 hz1 hz2 rfl (by omega) v a (encH (S.take a)) rfl hva ⟨wo.heap.size, 0, none⟩ 1 1 x.cells rfl rfl hnews (by simp [Value.oneCell', Hv.cells]) (by omega) (by unfold maxLen; omega) (by omega) (by simp; omega) (wo.heap.size + 1) (by simp) ?_)
        intro g cap' w5 hown5 hgrow5 hat5 hlt5
        have HFin : Hid (CutRel w S n k (.slice (some ⟨g, 0, none⟩) (a + 1) cap') (.int .i64 (a + 1 : Nat)) w5) := Lib.hid (by
          refine ⟨a + 1, _, hlt, hltk, rfl, rfl, ?_, grown_below (HB.out.trans (((Below.refl wo.heap.size wo).alloc (Nat.le_refl _) (.cells #[.int .i64 x.d, .int .i64 x.i, .string x.c] 34)).mono hsz)) hgrow5 (by simp; omega) (fun q hq => HGO.out q hq)⟩
          rw [HNT.out, encH_snoc]
          exact hown5)
        clear hown5 hgrow5 hat5 hlt5 hva hnews hv u0 u1 u2
        go_wp2
        go_roundw
        case rel => exact HFin.out
        case measure => simp [intOf]; omega
      · have hE := Lib.hid (HEnd.out (by rw [show a = k by omega]))
        have i1 : (a : Int) < (n : Int) := by omega
        have i2 : decide ((a : Int) < (k : Int)) = false := by simp; omega
        have i3 : decide (a < k) = false := by simp; omega
        clear hv hb HEnd
        go_wp2
        go_ret
        exact hE.out
    · have hE := Lib.hid (HEnd.out (by rw [List.take_of_length_le (by rw [HN.out]; omega), List.take_of_length_le (by rw [HN.out]; omega)]))
      have i1 : decide ((a : Int) < (n : Int)) = false := by simp; omega
      have i3 : decide (a < n) = false := by simp; omega
      clear hv hb HEnd
      go_wp2
      go_ret
      exact hE.out

theorem RefIs.box {ty : TypeId} {w : World} {ub : Nat} {n : Int} {S : List Hv} {G : Nat → Prop} (h : RefIs ty w ub n S G) : ∃ p c, w.cell? ⟨ub, 0, none⟩ = some (.int .i64 n) ∧ w.cell? ⟨ub, 1, none⟩ = some (.slice p S.length c) ∧ HL w p S := by
  obtain ⟨l, h1, h2, _⟩ := h
  obtain ⟨p, c, rfl, _⟩ := own_rd h2
  exact ⟨p, c, (box2c h1).1, (box2c h1).2, HL.of_own h2⟩

set_option maxRecDepth 100000 in
theorem rTop_list {w : World} {ub k : Nat} {S : List Hv} {G : Nat → Prop} (h1 : RefIs 77 w ub (k : Int) S G) (hk : k ≤ 4096) (hN : S.length * 32 ≤ 140737488355328) :
    Calls Try.prog 44 #[.pointer (some ⟨ub, 0, none⟩)] w (CutPost w S k) := by
  obtain ⟨p, c, d0, d1, hL⟩ := h1.box
  have C := Lib.hid (cut_calls p c S k (by omega) hN w.drew (hL.gr (Gr.refl w).drew))
  clear hL h1
  go_enter Try.func44, Try.ntmps44
  go_wp2
  go_still_tail 8, (by kernel_rfl)
  change wpList _ _ _ _ _ w.drew
  go_wp2_with fail
  refine C.out.mono ?_
  rintro e w1 ⟨v, rfl, ho, hb⟩
  have HO := Lib.hid ho
  have HB := Lib.hid (((Gr.refl w).drew).below.trans hb)
  clear ho hb
  go_wp2
  go_ret
  exact ⟨v, rfl, HO.out, HB.out⟩

set_option maxRecDepth 100000 in
theorem rBall_list {w : World} {ub : Nat} {r : Int} {S : List Hv} {G : Nat → Prop} (h1 : RefIs 65 w ub r S G) (hN : S.length * 32 ≤ 140737488355328) :
    Calls Try.prog 37 #[.pointer (some ⟨ub, 0, none⟩)] w (CutPost w S S.length) := by
  obtain ⟨p, c, d0, d1, hL⟩ := h1.box
  have C := Lib.hid (cut_calls p c S S.length (by omega) hN w.drew (hL.gr (Gr.refl w).drew))
  obtain ⟨n, hn⟩ : ∃ n, S.length = n := ⟨_, rfl⟩
  rw [hn] at C d1 hN ⊢
  clear hL h1 hn
  go_enter Try.func37, Try.ntmps37
  go_wp2
  go_region_held3 (fun w' => w'.cell? ⟨ub, 1, none⟩ = some (.slice p n c))
    (first | exact d1 | exact hb1)
    ((go_at_call 46; refine C.out.mono ?_; rintro e w1 ⟨v, rfl, ho, hb⟩; have hb1 : w1.cell? ⟨ub, 1, none⟩ = some (.slice p n c) := (hb.cell (p := ⟨ub, 1, none⟩) (cell_ltH d1)).trans d1))
  have HO := Lib.hid ho
  have HB := Lib.hid (((Gr.refl w).drew).below.trans hb)
  clear ho hb
  go_wp2
  go_ret
  exact ⟨v, rfl, HO.out, HB.out⟩

theorem worst_take {S : List Hv} {k : Nat} : worstV k (S.take k) = (if k = 0 then -1 else if S.length < k then 0 else (hd S (k - 1)).d) ∧ worstB k (S.take k) = decide (k = 0 ∨ k ≤ S.length) := by
  constructor
  · unfold worstV
    by_cases h0 : k = 0
    · rw [if_pos h0, if_pos h0]
    · rw [if_neg h0, if_neg h0]
      by_cases h1 : S.length < k
      · rw [if_pos (by simp; omega), if_pos h1]
      · rw [if_neg (by simp; omega), if_neg h1]
        congr 1
        unfold hd
        simp only [List.getD]
        rw [List.getElem?_take_of_lt (by omega)]
  · unfold worstB
    rw [decide_eq_decide]
    simp
    omega

set_option maxRecDepth 100000 in
set_option maxHeartbeats 1000000 in
theorem rTop_worst {w : World} {ub k : Nat} {S : List Hv} {G : Nat → Prop} (h1 : RefIs 77 w ub (k : Int) S G) (hk : k ≤ 4096) :
    Calls Try.prog 26 #[.pointer (some ⟨ub, 0, none⟩)] w fun e w' => e = .returned (.tuple #[.int .i64 (worstV k (S.take k)), .bool (worstB k (S.take k))]) ∧ ∃ q, w' = w.drewN q := by
  obtain ⟨p, c, d0, d1, hL⟩ := h1.box
  rw [worst_take.1, worst_take.2]
  clear h1
  by_cases h0 : k = 0
  · have e1 : decide (k = 0 ∨ k ≤ S.length) = true := by simp [h0]
    rw [if_pos h0, e1]
    have z2 : ((k : Int) == 0) = true := by simp; omega
    clear hL e1 h0
    go_enter Try.func26, Try.ntmps26
    go_wp2
    go_ret2
    exact ⟨rfl, 0, rfl⟩
  have z2 : ((k : Int) == 0) = false := by simp; omega
  by_cases h2 : S.length < k
  · have e1 : decide (k = 0 ∨ k ≤ S.length) = false := by simp; omega
    rw [if_neg h0, if_pos h2, e1]
    have z3 : (S.length : Int) < (k : Int) := by omega
    clear hL e1 h0
    go_enter Try.func26, Try.ntmps26
    go_wp2
    go_quiet (fail)
    go_wp2
    go_ret2
    exact ⟨rfl, _, rfl⟩
  · have e1 : decide (k = 0 ∨ k ≤ S.length) = true := by simp; omega
    rw [if_neg h0, if_neg h2, e1]
    obtain ⟨j, hj⟩ : ∃ j, k = j + 1 := ⟨k - 1, by omega⟩
    have hjk : k - 1 = j := by omega
    rw [hjk]
    obtain ⟨pa, hpa, u0, u1, u2⟩ := hL j _ (hd_get (by omega : j < S.length))
    obtain rfl := hpa
    have z3 : decide ((S.length : Int) < (k : Int)) = false := by simp; omega
    have z4 : decide (S.length < k) = false := by simp; omega
    have z5 : (0 : Int) ≤ (j : Int) := by omega
    have z6 : (j : Int) < (S.length : Int) := by omega
    have z7 : (k : Int) - 1 = (j : Int) := by omega
    have hw7 : IntKind.i64.wrap (j : Int) = (j : Int) := by rw [IntKind.wrap_i64]; omega
    clear hL e1 h0 hj hjk h2
    go_enter Try.func26, Try.ntmps26
    go_wp2
    go_quiet (fail)
    go_wp2
    go_quiet (fail)
    go_wp2
    go_ret2
    exact ⟨rfl, _, World.drewN_drewN _ _ _⟩

/-- What Add leaves. -/
def RAddPost (ty : TypeId) (w : World) (ub : Nat) (n : Int) (S : List Hv) (b : Bool) (G : Nat → Prop) (e : Ending) (w' : World) : Prop :=
  e = .returned (.bool b) ∧ ∃ G', RefIs ty w' ub n S G' ∧ FrP w w' G ∧ ∀ x, G' x → G x ∨ w.heap.size ≤ x

theorem RAddPost.more {ty : TypeId} {w w1 w2 : World} {ub : Nat} {n : Int} {S : List Hv} {b b' : Bool} {G : Nat → Prop} {e : Ending} (h : RAddPost ty w ub n S b G e w1) (hg : Gr w1 w2) : RAddPost ty w ub n S b' G (.returned (.bool b')) w2 := by
  obtain ⟨_, G', h1, h2, h3⟩ := h
  exact ⟨rfl, G', h1.below hg.below, h2.trans_gr hg, h3⟩

/-- The list stored anew. -/
theorem radd_post {ty : TypeId} {w w1 : World} {ub : Nat} {n : Int} {S : List Hv} {h : Hv} {l l' : Value} (hty : ty ≠ 34) (hB : w.heap[ub]? = some (.cells #[.int .i64 n, l] ty (0, 0))) (hl : w.ownsRow 0 34 3 l S.length (encH S)) (hS : Ris S) (hb : Below w.heap.size w w1) (ho : w1.ownsRow 0 34 3 l' (insH S h).length (encH (insH S h)))
    (hO : l'.ownBlock = l.ownBlock ∨ ∀ g, l'.ownBlock = some g → w.heap.size ≤ g) : RAddPost ty w ub n (insH S h) true (fun b => b = ub ∨ l.ownBlock = some b) (.returned (.bool true)) (w1.setCell ⟨ub, 1, none⟩ l') := by
  have hlt := (Array.getElem?_eq_some_iff.1 hB).1
  have hB1 := (hb.block ub hlt).trans hB
  have hne : l'.ownBlock ≠ some ub := by
    intro e
    rcases ho.2 with ⟨k, _⟩ | ⟨g, c, cur, k, _, k2, _⟩
    · rw [k] at e; cases e
    · rw [k] at e
      obtain rfl : g = ub := Option.some.inj e
      rw [hB1] at k2
      have := Option.some.inj k2
      injection this with _ h3
      exact hty h3
  refine ⟨rfl, _, ⟨l', ?_, ?_, ris_insH hS h, fun e => ?_, rfl⟩, ⟨?_, ?_, ?_, ?_, ?_⟩, ?_⟩
  · show (w1.setCell ⟨ub, 1, none⟩ l').heap[ub]? = _
    simp [World.setCell, Array.getElem?_modify, hB1]
  · exact own_setCell (p := ⟨ub, 1, none⟩) ho hne _
  · exfalso
    have : h ∈ insH S h := (mem_insH S h h).2 (.inr rfl)
    rw [e] at this
    cases this
  · exact hb.os
  · exact hb.tape
  · exact hb.output
  · show w.heap.size ≤ (w1.setCell ⟨ub, 1, none⟩ l').heap.size
    simp [World.setCell]
    exact hb.size
  · intro b hbl hF
    show (w1.setCell ⟨ub, 1, none⟩ l').heap[b]? = _
    exact (Below.heap_setCell _ _ _ _ (fun e => hF (.inl e))).trans (hb.block b hbl)
  · rintro x (hx | hx)
    · exact .inl (.inl hx)
    · rcases hO with e | e
      · exact .inl (.inr (e ▸ hx))
      · exact .inr (e x hx)

theorem mem_take_next {S : List Hv} {a : Nat} {h : Hv} (ha : a < S.length) (h1 : h ∉ S.take a) (h2 : hd S a ≠ h) : h ∉ S.take (a + 1) := by
  rw [mem_take_succ (hd_get ha)]
  rintro (k | k)
  · exact h1 k
  · exact h2 k.symm

set_option maxRecDepth 100000 in
set_option maxHeartbeats 2000000 in
theorem rTop_add {w : World} {ub k : Nat} {S : List Hv} {G : Nat → Prop} (h1 : RefIs 77 w ub (k : Int) S G) (hk : k ≤ 4096) (h : Hv) (hN : (S.length + 1) * 32 ≤ 140737488355328) :
    Calls Try.prog 28 #[.pointer (some ⟨ub, 0, none⟩), h.val] w (RAddPost 77 w ub (k : Int) (insH S h) (decide (h ∈ (insH S h).take k)) G) := by
  have hQ1 : Try.prog.eqGuardType Try.prog.depth 34 = false := by kernel_rfl
  obtain ⟨l, hB, hl, hS, hnil, rfl⟩ := h1
  have HG : Gr w (w.alloc (.cells #[.int .i64 h.d, .int .i64 h.i, .string h.c] 34)) := (Gr.refl w).alloc _
  have b0 := World.alloc_heap_new w (.cells #[.int .i64 h.d, .int .i64 h.i, .string h.c] 34)
  have HB := Lib.hid hB
  have HL0 := Lib.hid hl
  have HS := Lib.hid hS
  have hPt := Lib.hid (fun W (hW : Gr w W) => Put_calls l S h hnil hS hN W (own_belowAll hl hW.below))
  obtain ⟨S', hS'⟩ : ∃ S', insH S h = S' := ⟨_, rfl⟩
  obtain ⟨n, hn⟩ : ∃ n, S'.length = n := ⟨_, rfl⟩
  have hn63 : n ≤ 4398046511104 := by
    rw [← hn, ← hS', insH_length hS]
    split <;> omega
  have hmem : h ∈ S' := by rw [← hS']; exact (mem_insH S h h).2 (.inr rfl)
  have hIn : S'.length = n → True := fun _ => trivial
  have HS' := Lib.hid hS'
  have HN := Lib.hid hn
  have HMem := Lib.hid hmem
  rw [hS']
  obtain ⟨bb, hbb⟩ : ∃ bb, decide (h ∈ S'.take k) = bb := ⟨_, rfl⟩
  rw [hbb]
  have HBB := Lib.hid hbb
  clear hB hl hS hnil hN hS' hn hmem hIn hbb
  simp only [Hv.val]
  go_enter Try.func28, Try.ntmps28
  go_wp2
  generalize w.alloc (.cells #[.int .i64 h.d, .int .i64 h.i, .string h.c] 34) = wb at b0 HG ⊢
  have hB1 := (HG.below.block ub (Array.getElem?_eq_some_iff.1 HB.out).1).trans HB.out
  obtain ⟨d0, d1⟩ := box2c hB1
  have k0 : wb.cell? ⟨w.heap.size, 0, none⟩ = some (.int .i64 h.d) := by simp [World.cell?, b0]
  have k1 : wb.cell? ⟨w.heap.size, 1, none⟩ = some (.int .i64 h.i) := by simp [World.cell?, b0]
  have k2 : wb.cell? ⟨w.heap.size, 2, none⟩ = some (.string h.c) := by simp [World.cell?, b0]
  go_cut [] (fun wx => RAddPost 77 w ub (k : Int) S' true (fun b => b = ub ∨ l.ownBlock = some b) (.returned (.bool true)) wx ∧ wx.heap[w.heap.size]? = some (.cells #[.int .i64 h.d, .int .i64 h.i, .string h.c] 34 (0, 0)))
  case first =>
    go_region_law
      ((go_simp; go_at_call 39; refine (hPt.out _ HG.drew).mono ?_; rintro e w1 ⟨l', rfl, hb, ho, hO⟩
        obtain ⟨pl, cl, rfl, _⟩ := own_rd ho
        have hb0 : Below w.heap.size w w1 := HG.drew.below.trans (hb.mono HG.drew.below.size)
        have hB2 := (hb0.block ub (Array.getElem?_eq_some_iff.1 HB.out).1).trans HB.out
        have hbox := (hb.block _ (Array.getElem?_eq_some_iff.1 b0).1).trans b0
        have hPo := Lib.hid (radd_post (by decide) HB.out HL0.out HS.out hb0 ho (hO.imp id (fun q g hg => Nat.le_trans HG.drew.below.size (q g hg))))
        have e1 := (box2c hB2).2
        have ef : w1.frozen? ⟨ub, 1, none⟩ = false := by simp [World.frozen?, hB2]
        have hbW : (w1.setCell ⟨ub, 1, none⟩ (.slice pl (insH S h).length cl)).heap[w.heap.size]? = some (.cells #[.int .i64 h.d, .int .i64 h.i, .string h.c] 34 (0, 0)) :=
          (Below.heap_setCell _ _ _ _ (fun e => by have := (Array.getElem?_eq_some_iff.1 HB.out).1; simp at e; omega)).trans hbox
        have HBw := Lib.hid hbW
        clear hO hb ho hbW hbox hB2 hb0))
    all_goals
      go_wp2_with fail
      go_meet
      refine ⟨?_, HBw.out⟩
      rw [← HS'.out]
      exact hPo.out
  case rest =>
  obtain ⟨hPo', hBw'⟩ := hcut
  obtain ⟨W, hWc⟩ : ∃ W, wc = W := ⟨_, rfl⟩
  rw [hWc] at hPo' hBw' ⊢
  have hPo := Lib.hid hPo'
  have HBw := Lib.hid hBw'
  clear hPo' hBw' hWc d0 d1 k0 k1 k2
  go_wp2
  have hR := hPo.out
  obtain ⟨_, G', hRef, _, _⟩ := hR
  obtain ⟨p', c', d0, d1, hHL⟩ := hRef.box
  rw [HN.out] at d1
  have HHL := Lib.hid hHL
  have k0 : W.cell? ⟨w.heap.size, 0, none⟩ = some (.int .i64 h.d) := by simp [World.cell?, HBw.out]
  have k1 : W.cell? ⟨w.heap.size, 1, none⟩ = some (.int .i64 h.i) := by simp [World.cell?, HBw.out]
  have k2 : W.cell? ⟨w.heap.size, 2, none⟩ = some (.string h.c) := by simp [World.cell?, HBw.out]
  have hS0 := Lib.hid (fun (X : World) (hX : Gr W X) => (⟨(hX.below.cell (p := ⟨ub, 0, none⟩) (cell_ltH d0)).trans d0, (hX.below.cell (p := ⟨ub, 1, none⟩) (cell_ltH d1)).trans d1, (hX.below.cell (p := ⟨w.heap.size, 0, none⟩) (cell_ltH k0)).trans k0, (hX.below.cell (p := ⟨w.heap.size, 1, none⟩) (cell_ltH k1)).trans k1, (hX.below.cell (p := ⟨w.heap.size, 2, none⟩) (cell_ltH k2)).trans k2⟩ : X.cell? ⟨ub, 0, none⟩ = some (.int .i64 (k : Int)) ∧ X.cell? ⟨ub, 1, none⟩ = some (.slice p' n c') ∧ X.cell? ⟨w.heap.size, 0, none⟩ = some (.int .i64 h.d) ∧ X.cell? ⟨w.heap.size, 1, none⟩ = some (.int .i64 h.i) ∧ X.cell? ⟨w.heap.size, 2, none⟩ = some (.string h.c)))
  clear hHL hRef d0 d1 k0 k1 k2
  go_loopw [5] (fun i ws => ∃ a : Nat, a ≤ n ∧ a ≤ k ∧ i = .int .i64 a ∧ Gr W ws ∧ Hid (h ∉ S'.take a)) (fun i _ => n - (intOf i).toNat)
  case atStart => exact ⟨0, Nat.zero_le _, Nat.zero_le _, rfl, Gr.refl _, Lib.hid (by simp)⟩
  case round =>
    obtain ⟨a, ha, hak, rfl, hG, HA⟩ := hrel
    obtain ⟨wo, rfl⟩ : ∃ wo : World, wo = wr := ⟨_, rfl⟩
    obtain ⟨d0, d1, k0, k1, k2⟩ := hS0.out _ hG
    have i0' : (0 : Int) ≤ (a : Int) := by omega
    by_cases hlt : a < n
    · have i1 : (a : Int) < (n : Int) := by omega
      by_cases hltk : a < k
      · have i2 : (a : Int) < (k : Int) := by omega
        have hal : a < S'.length := by rw [HN.out]; exact hlt
        obtain ⟨x, hx⟩ : ∃ x, hd S' a = x := ⟨_, rfl⟩
        have hxS := hd_get hal
        rw [hx] at hxS
        obtain ⟨pa, hpa, u0, u1, u2⟩ := (HHL.out.gr hG) a _ hxS
        obtain rfl := hpa
        by_cases hxh : x = h
        · have hEq := fun W => (eql_hit x h W).trans (by rw [decide_eq_true hxh])
          have hd1 : decide (h ∈ S'.take k) = true := by
            simp only [decide_eq_true_eq]
            have h3 : (S'.take k)[a]? = some x := by rw [List.getElem?_take_of_lt hltk]; exact hxS
            rw [← hxh]
            exact List.mem_of_getElem? h3
          have hEnd := Lib.hid (fun X (hX : Gr W X) => (hPo.out.more hX : RAddPost _ _ _ _ _ true _ _ _))
          have HE1 := Lib.hid (HBB.out.symm.trans hd1)
          clear hxS hx hd1 HA hxh
          go_wp2
          go_quiet (fail)
          go_wp2
          go_ret
          rw [HE1.out]
          exact hEnd.out _ (hG.drewN _)
        · have hEq := fun W => (eql_hit x h W).trans (by rw [decide_eq_false hxh])
          have hA2 : Hid (h ∉ S'.take (a + 1)) := Lib.hid (by rw [mem_take_succ hxS]; rintro (q | q); exact HA.out q; exact hxh q.symm)
          clear hxS hx hxh HA
          go_wp2
          go_quiet (fail)
          have hG2 := hG.drewN nq
          go_wp2
          go_roundw
          case rel => exact ⟨a + 1, by omega, by omega, by go_num, hG2, hA2⟩
          case measure => simp [intOf]; omega
      · have i2 : decide ((a : Int) < (k : Int)) = false := by simp; omega
        have i3 : decide (a < k) = false := by simp; omega
        have hd1 : decide (h ∈ S'.take k) = false := decide_eq_false (by rw [show k = a by omega]; exact HA.out)
        have hEnd := Lib.hid (fun X (hX : Gr W X) => (hPo.out.more hX : RAddPost _ _ _ _ _ false _ _ _))
        have HE1 := Lib.hid (HBB.out.symm.trans hd1)
        clear hd1 HA
        go_wp2
        go_ret
        rw [HE1.out]
        exact hEnd.out _ hG
    · exfalso
      have := HA.out
      rw [List.take_of_length_le (by rw [HN.out]; omega)] at this
      exact this HMem.out

set_option maxRecDepth 100000 in
set_option maxHeartbeats 1000000 in
theorem rBall_add {w : World} {ub : Nat} {r : Int} {S : List Hv} {G : Nat → Prop} (h1 : RefIs 65 w ub r S G) (h : Hv) (hN : (S.length + 1) * 32 ≤ 140737488355328) :
    Calls Try.prog 15 #[.pointer (some ⟨ub, 0, none⟩), h.val] w (RAddPost 65 w ub r (if h.d ≤ r then insH S h else S) (decide (h.d ≤ r)) G) := by
  have hk1 := h1
  obtain ⟨l, hB, hl, hS, hnil, rfl⟩ := h1
  have HG : Gr w (w.alloc (.cells #[.int .i64 h.d, .int .i64 h.i, .string h.c] 34)) := (Gr.refl w).alloc _
  have b0 := World.alloc_heap_new w (.cells #[.int .i64 h.d, .int .i64 h.i, .string h.c] 34)
  by_cases hd' : h.d ≤ r
  · rw [if_pos hd']
    simp only [hd', decide_true]
    have HB := Lib.hid hB
    have HL0 := Lib.hid hl
    have HS := Lib.hid hS
    have hPt := Lib.hid (fun W (hW : Gr w W) => Put_calls l S h hnil hS hN W (own_belowAll hl hW.below))
    have z0 : decide (r < h.d) = false := by simp; omega
    clear hB hl hS hnil hN hk1
    simp only [Hv.val]
    go_enter Try.func15, Try.ntmps15
    go_wp2
    generalize w.alloc (.cells #[.int .i64 h.d, .int .i64 h.i, .string h.c] 34) = wb at b0 HG ⊢
    have hB1 := (HG.below.block ub (Array.getElem?_eq_some_iff.1 HB.out).1).trans HB.out
    obtain ⟨d0, d1⟩ := box2c hB1
    have k0 : wb.cell? ⟨w.heap.size, 0, none⟩ = some (.int .i64 h.d) := by simp [World.cell?, b0]
    have k1 : wb.cell? ⟨w.heap.size, 1, none⟩ = some (.int .i64 h.i) := by simp [World.cell?, b0]
    have k2 : wb.cell? ⟨w.heap.size, 2, none⟩ = some (.string h.c) := by simp [World.cell?, b0]
    go_quiet (fail)
    go_wp2
    obtain ⟨wd, hwd⟩ : ∃ x, wb.drewN nq = x := ⟨_, rfl⟩
    have hGd : Gr w wd := by rw [← hwd]; exact HG.drewN _
    have cc : ∀ a, wd.cell? a = wb.cell? a := fun a => by rw [← hwd]; rfl
    have e0 := (cc _).trans d0
    have e1 := (cc _).trans d1
    have m0 := (cc _).trans k0
    have m1 := (cc _).trans k1
    have m2 := (cc _).trans k2
    rw [hwd]
    clear cc d0 d1 k0 k1 k2 hwd b0 hB1
    go_cut [] (fun wx => RAddPost 65 w ub r (insH S h) true (fun b => b = ub ∨ l.ownBlock = some b) (.returned (.bool true)) wx)
    case first =>
      go_region_law
        ((go_simp; go_at_call 39; refine (hPt.out _ hGd.drew).mono ?_; rintro e w1 ⟨l', rfl, hb, ho, hO⟩
          obtain ⟨pl, cl, rfl, _⟩ := own_rd ho
          have hb0 : Below w.heap.size w w1 := hGd.drew.below.trans (hb.mono hGd.drew.below.size)
          have hB2 := (hb0.block ub (Array.getElem?_eq_some_iff.1 HB.out).1).trans HB.out
          have hPo := Lib.hid (radd_post (by decide) HB.out HL0.out HS.out hb0 ho (hO.imp id (fun q g hg => Nat.le_trans hGd.drew.below.size (q g hg))))
          have f1 := (box2c hB2).2
          have ef : w1.frozen? ⟨ub, 1, none⟩ = false := by simp [World.frozen?, hB2]
          clear hO hb ho hB2 hb0))
      all_goals
        go_wp2_with fail
        go_meet
        exact hPo.out
    case rest =>
      have hPo := Lib.hid hcut
      clear hcut e0 e1 m0 m1 m2
      go_wp2
      go_ret
      exact hPo.out
  · rw [if_neg hd']
    simp only [hd', decide_false]
    have hPo : Hid (∀ W, Gr w W → RAddPost 65 w ub r S false (fun b => b = ub ∨ l.ownBlock = some b) (.returned (.bool false)) W) := Lib.hid (fun W hW => ⟨rfl, _, hk1.below hW.below, FrP.of_gr hW, fun x hx => .inl hx⟩)
    have z0 : r < h.d := by omega
    have HB := Lib.hid hB
    clear hB hl hS hnil hN hk1
    simp only [Hv.val]
    go_enter Try.func15, Try.ntmps15
    go_wp2
    generalize w.alloc (.cells #[.int .i64 h.d, .int .i64 h.i, .string h.c] 34) = wb at b0 HG ⊢
    have hB1 := (HG.below.block ub (Array.getElem?_eq_some_iff.1 HB.out).1).trans HB.out
    obtain ⟨d0, d1⟩ := box2c hB1
    have k0 : wb.cell? ⟨w.heap.size, 0, none⟩ = some (.int .i64 h.d) := by simp [World.cell?, b0]
    clear hB1 b0
    go_quiet (fail)
    go_wp2
    go_ret
    exact hPo.out _ (HG.drewN _)
end Go.Proofs.Ytahceakghgmpkaa

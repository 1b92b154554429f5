/-
  CONTRACTS of tops and balls: made, handed a hit, asked.
-/
import Derived.Test.YtmfanldekjkbiaaDoorTopA
import Derived.Test.YtmfanldekjkbiaaDoorSortH
namespace Go.Proofs.YtmfanldekjkbiaaDoor
open Go.RowKit
set_option linter.unusedVariables false

def IsTop := Heap1 93
def IsBall := Heap1 91

/-- What New leaves. -/
def NewPost (ty : TypeId) (w : World) (n : Int) (e : Ending) (w' : World) : Prop :=
  ∃ tb F, e = .returned (.tuple #[.pointer (some ⟨tb, 0, none⟩), .int .i64 0]) ∧ Heap1 ty w' tb n [] F ∧ Gr w w' ∧ ∀ b, F b → w.heap.size ≤ b

theorem new_post {w w1 : World} {ty : TypeId} {n : Int} (hP : PileIs w1 (w.heap.size + 1) w.heap.size (.slice none 0 0) []) (hG : Gr w w1) :
    NewPost ty w n (.returned (.tuple #[.pointer (some ⟨w1.heap.size, 0, none⟩), .int .i64 0])) (w1.alloc (.cells #[.int .i64 n, .pointer (some ⟨w.heap.size + 1, 0, none⟩)] ty)) := by
  refine ⟨w1.heap.size, _, rfl, ⟨w.heap.size + 1, w.heap.size, .slice none 0 0, [], World.alloc_heap_new w1 _, hP.gr ((Gr.refl w1).alloc _), fun j _ h => by simp at h, List.Perm.refl _, List.Pairwise.nil, rfl⟩, hG.alloc _, ?_⟩
  rintro b (rfl | rfl | rfl | h)
  · exact hG.below.size
  · omega
  · omega
  · cases h

set_option maxRecDepth 100000 in
theorem newTop_ok (k : Int) (h0 : 0 ≤ k) (h1 : k ≤ 4096) (w : World) : Calls Tryd.prog 33 #[.int .i64 k] w (NewPost 93 w k) := by
  have hb : ∀ (W : World) (v : Value), (Instr.build 93 #[(0, .int .i64 k), (1, .pointer (some ⟨w.heap.size + 1, 0, none⟩))]).run Tryd.prog W = .ok (.agg #[.int .i64 k, .pointer (some ⟨w.heap.size + 1, 0, none⟩)]) W := fun W v => run_build W _ _ _ (by kernel_rfl)
  have HB := hb w (.bool true)
  have hb2 : ∀ (W : World), (Instr.build 93 #[(0, .int .i64 k), (1, .pointer (some ⟨w.heap.size + 1, 0, none⟩))]).run Tryd.prog W = .ok (.agg #[.int .i64 k, .pointer (some ⟨w.heap.size + 1, 0, none⟩)]) W := fun W => hb W (.bool true)
  have C := newPile_calls w
  have z0 : decide (k < 0) = false := by simp; omega
  have z1 : decide (4096 < k) = false := by simp; omega
  clear hb HB
  go_enter Tryd.func33, Tryd.ntmps33
  go_wp2_with fail
  refine C.mono ?_
  rintro e w1 ⟨rfl, hP, hG⟩
  have HPost := Lib.hid (new_post (ty := 93) (n := k) hP hG)
  clear hP hG
  go_wp2
  go_ret2
  exact HPost.out

set_option maxRecDepth 100000 in
theorem newTop_bad (k : Int) (h : k < 0 ∨ 4096 < k) (w : World) : Calls Tryd.prog 33 #[.int .i64 k] w fun e w' => e = .returned (.tuple #[.pointer none, .int .i64 100]) ∧ w' = w := by
  go_enter Tryd.func33, Tryd.ntmps33
  rcases h with h | h
  · go_wp2
    go_ret2
    exact ⟨rfl, rfl⟩
  · have h2 : decide (k < 0) = false := by simp; omega
    go_wp2
    go_ret2
    exact ⟨rfl, rfl⟩

set_option maxRecDepth 100000 in
theorem newBall_ok (k : Int) (h0 : 0 ≤ k) (h1 : k ≤ 1024) (w : World) : Calls Tryd.prog 28 #[.int .i64 k] w (NewPost 91 w k) := by
  have hb2 : ∀ (W : World), (Instr.build 91 #[(0, .int .i64 k), (1, .pointer (some ⟨w.heap.size + 1, 0, none⟩))]).run Tryd.prog W = .ok (.agg #[.int .i64 k, .pointer (some ⟨w.heap.size + 1, 0, none⟩)]) W := fun W => run_build W _ _ _ (by kernel_rfl)
  have C := newPile_calls w
  have z0 : decide (k < 0) = false := by simp; omega
  have z1 : decide (1024 < k) = false := by simp; omega
  go_enter Tryd.func28, Tryd.ntmps28
  go_wp2_with fail
  refine C.mono ?_
  rintro e w1 ⟨rfl, hP, hG⟩
  have HPost := Lib.hid (new_post (ty := 91) (n := k) hP hG)
  clear hP hG
  go_wp2
  go_ret2
  exact HPost.out

set_option maxRecDepth 100000 in
theorem newBall_bad (k : Int) (h : k < 0 ∨ 1024 < k) (w : World) : Calls Tryd.prog 28 #[.int .i64 k] w fun e w' => e = .returned (.tuple #[.pointer none, .int .i64 101]) ∧ w' = w := by
  go_enter Tryd.func28, Tryd.ntmps28
  rcases h with h | h
  · go_wp2
    go_ret2
    exact ⟨rfl, rfl⟩
  · have h2 : decide (k < 0) = false := by simp; omega
    go_wp2
    go_ret2
    exact ⟨rfl, rfl⟩

/-- What Add leaves. -/
def AddedPost (ty : TypeId) (w : World) (tb : Nat) (n : Int) (T : List Hv) (b : Bool) (F : Nat → Prop) (e : Ending) (w' : World) : Prop :=
  e = .returned (.bool b) ∧ ∃ F', Heap1 ty w' tb n T F' ∧ FrP w w' F ∧ ∀ x, F' x → F x ∨ w.heap.size ≤ x

theorem added_gr {ty : TypeId} {w w' : World} {tb : Nat} {n : Int} {T : List Hv} {F : Nat → Prop} (h : Heap1 ty w tb n T F) (hg : Gr w w') (b : Bool) : AddedPost ty w tb n T b F (.returned (.bool b)) w' :=
  ⟨rfl, F, h.below hg.below, FrP.of_gr hg, fun x hx => .inl hx⟩

theorem added_post {ty : TypeId} {w w' : World} {tb pb mb : Nat} {n : Int} {v v' : Value} {L' T : List Hv} (hB : w'.heap[tb]? = some (.cells #[.int .i64 n, .pointer (some ⟨pb, 0, none⟩)] ty (0, 0))) (hP : PileIs w' pb mb v' L') (hH : HeapH L') (hp : L'.Perm T) (hT : Ris T)
    (hF : Fr w w' [some pb, some mb, v.ownBlock]) (hO : v'.ownBlock = v.ownBlock ∨ ∃ g, v'.ownBlock = some g ∧ w.heap.size ≤ g) : AddedPost ty w tb n T true (Foot tb pb mb v) (.returned (.bool true)) w' := by
  refine ⟨rfl, Foot tb pb mb v', ⟨pb, mb, v', L', hB, hP, hH, hp, hT, rfl⟩, FrP.of_fr hF ?_, ?_⟩
  · intro b hb _
    simp only [List.mem_cons, List.not_mem_nil, or_false] at hb
    rcases hb with hb | hb | hb
    · exact .inr (.inl (Option.some.inj hb))
    · exact .inr (.inr (.inl (Option.some.inj hb)))
    · exact .inr (.inr (.inr hb.symm))
  · rintro x (hx | hx | hx | hx)
    · exact .inl (.inl hx)
    · exact .inl (.inr (.inl hx))
    · exact .inl (.inr (.inr (.inl hx)))
    · rcases hO with e | ⟨g, e, hg⟩
      · exact .inl (.inr (.inr (.inr (e ▸ hx))))
      · rw [e] at hx
        obtain rfl := Option.some.inj hx
        exact .inr hg

theorem top_add {w : World} {tb k : Nat} {T : List Hv} {F : Nat → Prop} (h1 : Heap1 93 w tb (k : Int) T F) (hk : k ≤ 4096) (hl : T.length ≤ k) (h : Hv) (hg : GoodH h) :
    Calls Tryd.prog 35 #[.pointer (some ⟨tb, 0, none⟩), h.val] w (AddedPost 93 w tb k ((insH T h).take k) (decide (h ∈ (insH T h).take k)) F) := by
  have hk1 := h1
  obtain ⟨pb, mb, v, L, hB, hP, hH, hp, hT, hF⟩ := h1
  have hll := hp.length_eq
  by_cases hm : h ∈ L
  · have hmT : h ∈ T := (hp.mem_iff).1 hm
    have e : (insH T h).take k = T := take_insH_mem hT hl hmT
    rw [e]
    simp only [hmT, decide_true]
    exact (topAdd_there tb pb mb k v L h hg hk hm w hB hP).mono fun e' w' ⟨he, hgr⟩ => by rw [he]; exact added_gr hk1 hgr true
  have hmT : h ∉ T := fun k => hm ((hp.mem_iff).2 k)
  by_cases h0 : k = 0
  · have hTn : T = [] := List.eq_nil_of_length_eq_zero (by omega)
    have e : (insH T h).take k = T := by rw [h0, hTn]; rfl
    rw [e]
    simp only [hmT, decide_false]
    exact (topAdd_zero tb pb mb k v L h hg hk hm h0 w hB hP).mono fun e' w' ⟨he, hgr⟩ => by rw [he]; exact added_gr hk1 hgr false
  by_cases hfull : k = L.length
  · obtain ⟨j, hj⟩ : ∃ j, T.length = j + 1 := ⟨T.length - 1, by omega⟩
    have hlast := (drop_last hH hp hT hj).2
    have hTe := list_snoc hj
    rcases hless_tri (hd L 0) h with hb | hb | hb
    · have hall : ∀ x ∈ T, hless x h := by
        intro x hx
        rw [hTe] at hx hT
        rcases List.mem_append.1 hx with hx | hx
        · rw [hlast] at hb; exact hless_trans ((ris_snoc hT).2 x hx) hb
        · rw [List.mem_singleton.1 hx, ← hlast]; exact hb
      have e := (insH_behind hT (by omega) hall : (insH T h).take k = T ∧ h ∉ T).1
      rw [e]
      simp only [hmT, decide_false]
      exact (topAdd_behind tb pb mb k v L h hg hk hm (by omega) hfull hb w hB hP).mono fun e' w' ⟨he, hgr⟩ => by rw [he]; exact added_gr hk1 hgr false
    · have h0L : hd L 0 ∈ L := List.mem_of_getElem? (hd_get (by omega))
      exact absurd (hb ▸ h0L) hm
    · have hb' : hless h (hd T j) := by rw [← hlast]; exact hb
      obtain ⟨hin, hlen⟩ := insH_among hT hj hmT hb'
      have hkj : k = j + 1 := by omega
      rw [← hkj] at hin
      simp only [hin, decide_true]
      refine (topAdd_full tb pb mb k v L h hg hk hm (by omega) hfull hb hH (by omega) w hB hP).mono ?_
      rintro e' w' ⟨rfl, v', L', hB', hP', hH', ⟨M, hM, hMp, hLp⟩, hF', hO'⟩
      rw [hF]
      have hMT : M.Perm (insH T h) := hMp.trans ((hp.cons h).trans (insH_perm hmT).symm)
      have hd := (drop_last hM hMT (ris_insH hT h) (k := k) (by omega)).1
      exact added_post hB' hP' hH' (hLp.trans hd) (ris_take (ris_insH hT h) k) hF' hO'
  · have hroom : T.length < k := by omega
    have e := take_insH_room hT hroom hmT
    rw [e]
    have hin : h ∈ insH T h := (mem_insH T h h).2 (.inr rfl)
    simp only [hin, decide_true]
    refine (topAdd_room tb pb mb k v L h hg hk hm (by omega) hH (by omega) w hB hP).mono ?_
    rintro e' w' ⟨rfl, v', L', hB', hP', hH', hLp, hF', hO'⟩
    rw [hF]
    exact added_post hB' hP' hH' (hLp.trans ((hp.cons h).trans (insH_perm hmT).symm)) (ris_insH hT h) hF' hO'

/-- put, whichever. -/
theorem put_calls (pb mb : Nat) (v : Value) (L : List Hv) (h : Hv) (hg : GoodH h) (hH : HeapH L) (hn : (L.length + 1) * 32 ≤ 140737488355328) (w : World) (hP : PileIs w pb mb v L) :
    Calls Tryd.prog 46 #[.pointer (some ⟨pb, 0, none⟩), h.val] w (PutPost w pb mb v L h) := by
  by_cases hm : h ∈ L
  · exact put_there pb mb v L h hg hm hH w hP
  · exact put_new pb mb v L h hg hm hH hn w hP

set_option maxRecDepth 100000 in
set_option maxHeartbeats 1000000 in
theorem ball_far {w : World} {tb : Nat} {r : Int} {T : List Hv} {F : Nat → Prop} (h1 : Heap1 91 w tb r T F) (h : Hv) (hf : r < h.d) :
    Calls Tryd.prog 31 #[.pointer (some ⟨tb, 0, none⟩), h.val] w (AddedPost 91 w tb r T false F) := by
  have hP := fun W hW => added_gr (w' := W) h1 hW false
  obtain ⟨pb, mb, v, L, hB, hPl, hH, hp, hT, hF⟩ := h1
  have HG : Gr w (w.alloc (.cells #[.int .i64 h.d, .int .i64 h.i, .string h.c] 36)) := (Gr.refl w).alloc _
  have b0 := World.alloc_heap_new w (.cells #[.int .i64 h.d, .int .i64 h.i, .string h.c] 36)
  have hB1 : (w.alloc (.cells #[.int .i64 h.d, .int .i64 h.i, .string h.c] 36)).heap[tb]? = _ := (HG.below.block tb (Array.getElem?_eq_some_iff.1 hB).1).trans hB
  have HPo := Lib.hid (fun W (hW : Gr (w.alloc (.cells #[.int .i64 h.d, .int .i64 h.i, .string h.c] 36)) W) => hP W (HG.trans hW))
  clear hB hP hPl hH hp hT hF
  simp only [Hv.val]
  go_enter Tryd.func31, Tryd.ntmps31
  go_wp2
  generalize w.alloc (.cells #[.int .i64 h.d, .int .i64 h.i, .string h.c] 36) = wb at b0 HG hB1 HPo ⊢
  obtain ⟨d0, d1⟩ := box2c hB1
  have k0 : wb.cell? ⟨w.heap.size, 0, none⟩ = some (.int .i64 h.d) := by simp [World.cell?, b0]
  go_quiet (fail)
  go_wp2
  go_ret
  exact HPo.out _ ((Gr.refl wb).drewN _)

set_option maxRecDepth 100000 in
set_option maxHeartbeats 1000000 in
theorem ball_near {w : World} {tb : Nat} {r : Int} {T : List Hv} {F : Nat → Prop} (h1 : Heap1 91 w tb r T F) (h : Hv) (hf : h.d ≤ r) (hg : GoodH h) (hn : (T.length + 1) * 32 ≤ 140737488355328) :
    Calls Tryd.prog 31 #[.pointer (some ⟨tb, 0, none⟩), h.val] w (AddedPost 91 w tb r (insH T h) true F) := by
  obtain ⟨pb, mb, v, L, hB, hPl, hH, hp, hT, hF⟩ := h1
  have HG : Gr w (w.alloc (.cells #[.int .i64 h.d, .int .i64 h.i, .string h.c] 36)) := (Gr.refl w).alloc _
  have b0 := World.alloc_heap_new w (.cells #[.int .i64 h.d, .int .i64 h.i, .string h.c] 36)
  have hB1 : (w.alloc (.cells #[.int .i64 h.d, .int .i64 h.i, .string h.c] 36)).heap[tb]? = _ := (HG.below.block tb (Array.getElem?_eq_some_iff.1 hB).1).trans hB
  have hP1 := hPl.gr HG
  have hF' := Lib.hid hF
  have hT' := Lib.hid hT
  have hp' := Lib.hid hp
  have HPt := Lib.hid (fun W => put_calls pb mb v L h hg hH (by rw [hp.length_eq]; exact hn) W)
  obtain ⟨ap1, ap2, ap3⟩ := box_apart hB hPl (by decide) (by decide)
  clear hB hPl hH hp hT hF hn
  simp only [Hv.val]
  go_enter Tryd.func31, Tryd.ntmps31
  go_wp2
  generalize w.alloc (.cells #[.int .i64 h.d, .int .i64 h.i, .string h.c] 36) = wb at b0 HG hB1 hP1 ⊢
  obtain ⟨d0, d1⟩ := box2c hB1
  have k0 : wb.cell? ⟨w.heap.size, 0, none⟩ = some (.int .i64 h.d) := by simp [World.cell?, b0]
  have k1 : wb.cell? ⟨w.heap.size, 1, none⟩ = some (.int .i64 h.i) := by simp [World.cell?, b0]
  have k2 : wb.cell? ⟨w.heap.size, 2, none⟩ = some (.string h.c) := by simp [World.cell?, b0]
  have z0 : decide (r < h.d) = false := by simp; omega
  have HP1 := Lib.hid hP1
  have HB1 := Lib.hid hB1
  clear hP1 hB1
  go_quiet (fail)
  go_wp2
  obtain ⟨W1, hW1⟩ : ∃ W, wb.drewN nq = W := ⟨_, rfl⟩
  have hG1 : Gr wb W1 := by rw [← hW1]; exact (Gr.refl wb).drewN _
  have cc : ∀ a, W1.cell? a = wb.cell? a := fun a => by rw [← hW1]; rfl
  rw [hW1]
  have e0 := (cc _).trans d0
  have e1 := (cc _).trans d1
  have m0 := (cc _).trans k0
  have m1 := (cc _).trans k1
  have m2 := (cc _).trans k2
  clear cc d0 d1 k0 k1 k2 hW1 b0
  go_still_tail 5, (by kernel_rfl)
  change wpList _ _ _ _ _ W1.drew
  go_wp2_with fail
  have hG2 : Gr wb W1.drew := hG1.drew
  refine (HPt.out _ (HP1.out.gr hG2)).mono ?_
  rintro e W2 ⟨rfl, v2, L2, hP2, hH2, hp2, hF2, hO2⟩
  have hB2 := (hF2.2.2.2.2 tb (Nat.lt_of_lt_of_le (Array.getElem?_eq_some_iff.1 HB1.out).1 hG2.below.size) (by simp; exact ⟨ap1, ap2, fun e => ap3 e.symm⟩)).trans ((hG2.below.block tb (Array.getElem?_eq_some_iff.1 HB1.out).1).trans HB1.out)
  have hF0 : Fr w W2 [some pb, some mb, v.ownBlock] := (Fr.of_gr (HG.trans hG2) _).trans hF2
  have hO0 : v2.ownBlock = v.ownBlock ∨ ∃ g, v2.ownBlock = some g ∧ w.heap.size ≤ g := hO2.imp id (fun ⟨g, a, b⟩ => ⟨g, a, Nat.le_trans (HG.trans hG2).below.size b⟩)
  have hpT : L2.Perm (insH T h) := by
    split at hp2
    · rename_i hm
      rw [insH_mem hT'.out ((hp'.out.mem_iff).1 hm)]
      exact hp2.trans hp'.out
    · rename_i hm
      exact hp2.trans ((hp'.out.cons h).trans (insH_perm (fun k => hm ((hp'.out.mem_iff).2 k))).symm)
  have hEnd := Lib.hid (added_post hB2 hP2 hH2 hpT (ris_insH hT'.out h) hF0 hO0)
  rw [← hF'.out] at hEnd
  clear hP2 hH2 hp2 hF2 hO2 hB2 hF0 hO0 hpT e0 e1 m0 m1 m2
  go_wp2
  go_ret
  exact hEnd.out

theorem ball_add {w : World} {tb : Nat} {r : Int} {T : List Hv} {F : Nat → Prop} (h1 : Heap1 91 w tb r T F) (h : Hv) (hg : GoodH h) (hn : (T.length + 1) * 32 ≤ 140737488355328) :
    Calls Tryd.prog 31 #[.pointer (some ⟨tb, 0, none⟩), h.val] w (AddedPost 91 w tb r (if h.d ≤ r then insH T h else T) (decide (h.d ≤ r)) F) := by
  by_cases hd : h.d ≤ r
  · rw [if_pos hd]
    simp only [hd, decide_true]
    exact ball_near h1 h hd hg hn
  · rw [if_neg hd]
    simp only [hd, decide_false]
    exact ball_far h1 h (by omega)

/-- What List leaves. -/
def ListPost (w : World) (T : List Hv) (e : Ending) (w' : World) : Prop :=
  ∃ v', e = .returned v' ∧ w'.ownsRow w.heap.size 36 3 v' T.length (encH T) ∧ Below w.heap.size w w'

theorem list_post {w w' : World} {L T : List Hv} {e : Ending} (hp : L.Perm T) (hT : Ris T) (h : SortedPost w L e w') : ListPost w T e w' := by
  obtain ⟨v', T', he, ho, hp', hr, hb⟩ := h
  obtain rfl := ris_perm hr hT (hp'.trans hp)
  exact ⟨v', he, by rw [← hp.length_eq]; exact ho, hb⟩

set_option maxRecDepth 100000 in
theorem top_list {w : World} {tb : Nat} {n : Int} {T : List Hv} {F : Nat → Prop} (h1 : Heap1 93 w tb n T F) (hn : T.length * 32 ≤ 140737488355328) :
    Calls Tryd.prog 36 #[.pointer (some ⟨tb, 0, none⟩)] w (ListPost w T) := by
  obtain ⟨pb, mb, v, L, hB, hPl, hH, hp, hT, hF⟩ := h1
  obtain ⟨d0, d1⟩ := box2c hB
  have S := Lib.hid (sorted_calls pb mb v L (by rw [hp.length_eq]; exact hn) w hPl)
  have HP := Lib.hid hp
  have HT := Lib.hid hT
  clear hB hPl hH hp hT hF hn
  go_enter Tryd.func36, Tryd.ntmps36
  go_wp2_with fail
  refine S.out.mono ?_
  intro e w1 hs
  obtain ⟨v', rfl, ho, hb⟩ := list_post HP.out HT.out hs
  have HO := Lib.hid ho
  have HB := Lib.hid hb
  clear ho hb hs
  go_wp2
  go_ret
  exact ⟨v', rfl, HO.out, HB.out⟩

set_option maxRecDepth 100000 in
theorem ball_list {w : World} {tb : Nat} {n : Int} {T : List Hv} {F : Nat → Prop} (h1 : Heap1 91 w tb n T F) (hn : T.length * 32 ≤ 140737488355328) :
    Calls Tryd.prog 32 #[.pointer (some ⟨tb, 0, none⟩)] w (ListPost w T) := by
  obtain ⟨pb, mb, v, L, hB, hPl, hH, hp, hT, hF⟩ := h1
  obtain ⟨d0, d1⟩ := box2c hB
  have S := Lib.hid (sorted_calls pb mb v L (by rw [hp.length_eq]; exact hn) w hPl)
  have HP := Lib.hid hp
  have HT := Lib.hid hT
  clear hB hPl hH hp hT hF hn
  go_enter Tryd.func32, Tryd.ntmps32
  go_wp2_with fail
  refine S.out.mono ?_
  intro e w1 hs
  obtain ⟨v', rfl, ho, hb⟩ := list_post HP.out HT.out hs
  have HO := Lib.hid ho
  have HB := Lib.hid hb
  clear ho hb hs
  go_wp2
  go_ret
  exact ⟨v', rfl, HO.out, HB.out⟩

/-- What Worst answers. -/
def worstV (k : Nat) (T : List Hv) : Int := if k = 0 then -1 else if T.length < k then 0 else (hd T (k - 1)).d

def worstB (k : Nat) (T : List Hv) : Bool := decide (k = 0 ∨ k ≤ T.length)

end Go.Proofs.YtmfanldekjkbiaaDoor

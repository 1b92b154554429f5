/-
  WALKS: container/heap over a merger's heads: Push and Pop, whole.
-/
import Derived.Test.YtahdaccmokjgpaaHeapD
namespace Go.Proofs.Ytahdaccmokjgpaa
open Go.RowKit ArgK
set_option linter.unusedVariables false

set_option maxRecDepth 100000 in
set_option maxHeartbeats 1000000 in
theorem HPush_calls {w : World} {B hb : Nat} {v : Value} {L : List Hdv} (h : PileD w B hb v L) (hH : HeapG abv L) (hn : L.length ≤ 1000000) (hB : B ≤ w.heap.size) (x : Hdv) :
    Calls Try.prog 56 #[.iface 82 (.pointer (some ⟨hb, 0, none⟩)), .iface 100 x.val] w (HeapPost w B hb v (x :: L) (.tuple #[])) := by
  have C1 := Lib.hid (Push_calls h hn hB x)
  have M1 := meth_Push hb (.iface 100 x.val) w
  have HU := Lib.hid (upG_snoc hH x)
  have HP := Lib.hid (List.perm_append_singleton x L)
  have HL : Hid ((L ++ [x]).length = L.length + 1) := Lib.hid (by simp)
  obtain ⟨M, hM⟩ : ∃ M, L ++ [x] = M := ⟨_, rfl⟩
  have C2 : Calls Try.prog 80 #[.pointer (some ⟨hb, 0, none⟩), .iface 100 x.val] w (fun e w' => e = .returned (.tuple #[]) ∧ Hid (∃ v', PileD w' B hb v' M ∧ PKeep hb w v w' v')) := C1.out.mono fun e w' ⟨h1, h2⟩ => ⟨h1, Lib.hid (by rw [← hM]; exact h2)⟩
  rw [hM] at HU HP HL
  have HC2 := Lib.hid C2
  obtain ⟨n, hln⟩ : ∃ n, L.length = n := ⟨_, rfl⟩
  rw [hln] at HU HL hn
  clear h hH C1 C2 hM hln
  go_enter Try.func56, Try.ntmps56
  go_wp2_with fail
  refine HC2.out.mono ?_
  rintro e w1 ⟨rfl, H1⟩
  obtain ⟨v1, hP1, hK1⟩ := H1.out
  have HK1 := Lib.hid hK1
  obtain ⟨g, c, rfl⟩ := hP1.at (j := 0) (by rw [HL.out]; omega)
  have hl1 := HL.out
  rw [hl1] at hP1
  have M2 := meth_Len hP1.cell.1
  have CU := Lib.hid (up_calls hP1 (by omega) HU.out (by omega))
  clear M1 hP1 hK1 H1 hl1
  go_wp2_with fail
  refine (Len_calls _ _ _ _).mono ?_
  rintro e w2 ⟨rfl, rfl⟩
  clear M2
  go_wp2_with fail
  refine CU.out.mono ?_
  rintro e w2 ⟨rfl, v', L', a1, a2, a3, a4⟩
  have HE : Hid (HeapPost w B hb v (x :: L) (.tuple #[]) (.returned (.tuple #[])) w2) := Lib.hid ⟨rfl, v', L', a1, a2, a3.trans HP.out, HK1.out.trans a4⟩
  clear a1 a2 a3 a4
  go_wp2
  go_end0
  exact HE.out

set_option maxRecDepth 100000 in
set_option maxHeartbeats 1000000 in
theorem HPop_calls {w : World} {B hb : Nat} {v : Value} {x : Hdv} {T L : List Hdv} (h : PileD w B hb v L) (hH : HeapG abv L) (hn : L.length ≤ 1000000) (h0 : 0 < L.length) :
    Calls Try.prog 57 #[.iface 82 (.pointer (some ⟨hb, 0, none⟩))] w (fun e w' => HeapPost w B hb v (dropG L) (.iface 100 (hdG L 0).val) e w') := by
  obtain ⟨n, hln⟩ : ∃ n, L.length = n + 1 := ⟨L.length - 1, by omega⟩
  obtain ⟨g, c, rfl⟩ := h.at (j := 0) h0
  rw [hln] at h
  obtain ⟨v, hv⟩ : ∃ v, Value.slice (some ⟨g, 0, none⟩) (n + 1) c = v := ⟨_, rfl⟩
  rw [hln, hv]
  have HV := Lib.hid hv
  clear hv
  have hrw := h.row
  rw [hln] at hrw
  have M1 := meth_Len h.cell.1
  have M2 := meth_Swap h.cell.1 (.int .i64 0) (.int .i64 n)
  obtain ⟨hS1, hS2⟩ := h.swap hln (i := 0) (j := n) (by omega) (by omega)
  have CS : Calls Try.prog 81 #[.slice (some ⟨g, 0, none⟩) (n + 1) c, .int .i64 0, .int .i64 n] w fun e w' => e = .returned (.tuple #[]) ∧ w' = (setD (setD w g 0 (hdG L n)) g n (hdG L 0)).drew := by
    by_cases hn0 : n = 0
    · subst hn0
      exact Swap_one hrw (by omega) (by omega)
    · exact Swap_calls hrw (by omega) (i := 0) (j := n) (by omega) (by omega) (by omega)
  have hls : (swpG L 0 n).length = n + 1 := by rw [swpG_length]; exact hln
  have htk : (swpG L 0 n).take n = dropG L := by
    have := dropG_swp (L := L) h0
    rw [hln] at this
    exact this
  have hzn : hdG (swpG L 0 n) n = hdG L 0 := by rw [hdG_swp (by omega) (by omega), if_pos rfl]
  have hD := dnG_dropG hH
  rw [← htk] at hD
  generalize (setD (setD w g 0 (hdG L n)) g n (hdG L 0)).drew = w1 at CS hS1 hS2
  have CD := down_calls hS1 (by omega) hls hD
  rw [hzn, htk] at CD
  generalize hdG L 0 = z at CD ⊢
  have HCD := Lib.hid CD
  have HCS := Lib.hid CS
  have HS2 := Lib.hid hS2
  have hn2 : n ≤ 1000000 := by omega
  generalize dropG L = D at HCD ⊢
  clear CD CS hS1 hS2 h hH hls htk hzn hD hrw hn h0 hln
  go_enter Try.func57, Try.ntmps57
  go_wp2_with fail
  refine (Len_calls _ _ _ _).mono ?_
  rintro e w2 ⟨rfl, rfl⟩
  clear M1
  have e0 : ((n + 1 : Nat) : Int) - 1 = (n : Int) := by omega
  go_wp2_with fail
  refine HCS.out.mono ?_
  rintro e w2 ⟨rfl, rfl⟩
  clear M2
  go_wp2_with fail
  refine HCD.out.mono ?_
  rintro e w3 ⟨⟨b, rfl⟩, v3, L3, b1, b2, b3, b4, b5, b6⟩
  have M3 := meth_Pop hb w3
  have CP : Calls Try.prog 79 #[.pointer (some ⟨hb, 0, none⟩)] w3 (fun e w' => e = .returned (.iface 100 z.val) ∧ Hid (HeapPost w B hb v D (.iface 100 z.val) e w')) :=
    (PopD_calls b1 b2 hn2).mono fun e w' ⟨h1, v', h2, h3⟩ => by
      rw [b5] at h1
      subst h1
      exact ⟨rfl, Lib.hid ⟨rfl, v', _, h2, b3, b4, by rw [← HV.out]; exact (HS2.out.trans b6).trans h3⟩⟩
  have HCP := Lib.hid CP
  clear b1 b2 b3 b4 b5 b6 CP
  go_wp2_with fail
  refine HCP.out.mono ?_
  rintro e w4 ⟨rfl, HE⟩
  go_wp2
  go_ret
  exact HE.out
end Go.Proofs.Ytahdaccmokjgpaa

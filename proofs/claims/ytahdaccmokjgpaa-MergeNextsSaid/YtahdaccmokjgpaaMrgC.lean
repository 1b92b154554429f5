/-
  WALK: a merger begins.
-/
import Derived.Test.YtahdaccmokjgpaaMrgK
namespace Go.Proofs.Ytahdaccmokjgpaa
open Go.RowKit ArgK
set_option linter.unusedVariables false

theorem ask_far {m : Mst} {i j : Nat} (h : j ≠ i) : (m.ask i).S[j]? = m.S[j]? ∧ (m.ask i).F[j]? = m.F[j]? := by
  cases hs : m.S[i]? with
  | none => rw [ask_none hs]; exact ⟨rfl, rfl⟩
  | some st =>
    rw [ask_some hs]
    exact ⟨List.getElem?_set_ne (fun e => h e.symm), List.getElem?_set_ne (fun e => h e.symm)⟩

/-- Nothing was asked from source k on. -/
def Fresh (k : Nat) (m : Mst) : Prop := ∀ (j : Nat) (st : Sst), k ≤ j → m.S[j]? = some st → st.used = 0 ∧ m.F[j]? = some none

theorem Fresh.ask {k : Nat} {m : Mst} (h : Fresh k m) : Fresh (k + 1) (m.ask k) := by
  intro j st hj hs
  rw [(ask_far (m := m) (i := k) (j := j) (by omega)).1] at hs
  rw [(ask_far (m := m) (i := k) (j := j) (by omega)).2]
  exact h j st (by omega) hs

/-- What begin leaves. -/
def BegPost (w0 : World) (v0 : Value) (B : Nat) (T : List TypeId) (mb hb : Nat) (sv : Value) (fs : List Value) (bottom : Bool) (I : World → List Sst → Prop) (m : Mst) (e : Ending) (w' : World) : Prop :=
  e = .returned (.int .i64 m.bad) ∧ AskInv w0 v0 B T mb hb sv fs bottom true 0 I m w'

/-- At the head of each round. -/
def BegRel (w0 : World) (v0 : Value) (B : Nat) (T : List TypeId) (mb hb : Nat) (sv : Value) (fs : List Value) (bottom : Bool) (I : World → List Sst → Prop) (M : Mst) (k : Nat) (wr : World) : Prop :=
  ∃ mk : Mst, mk.asks ((List.range fs.length).drop k) = M ∧ mk.bad = 0 ∧ MOk fs.length mk ∧ Fresh k mk ∧ AskInv w0 v0 B T mb hb sv fs bottom true 0 I mk wr ∧ w0.heap.size ≤ wr.heap.size

theorem range_drop {n k : Nat} (h : k < n) : (List.range n).drop k = k :: (List.range n).drop (k + 1) := by
  rw [List.drop_eq_getElem_cons (by simpa using h)]
  simp

theorem BegRel.round {w0 : World} {v0 : Value} {B : Nat} {T : List TypeId} {mb hb : Nat} {sv : Value} {fs : List Value} {bottom : Bool} {I : World → List Sst → Prop} {M : Mst} {k : Nat} {wr : World} (hF : FeedLaw B T fs I) (hn : fs.length ≤ 1024) (hB : B ≤ w0.heap.size)
    (h : BegRel w0 v0 B T mb hb sv fs bottom I M k wr) (hk : k < fs.length) :
    Calls Try.prog 53 #[.pointer (some ⟨mb, 0, none⟩), .int .i64 k, .pointer none] wr fun e w' => ∃ r, e = .returned (.int .i64 r) ∧ (r = 0 → BegRel w0 v0 B T mb hb sv fs bottom I M (k + 1) w') ∧ (r ≠ 0 → BegPost w0 v0 B T mb hb sv fs bottom I M (.returned (.int .i64 r)) w') := by
  obtain ⟨mk, h1, h2, h3, h4, h5, h6⟩ := h
  obtain ⟨st, hs⟩ : ∃ st, mk.S[k]? = some st := ⟨_, List.getElem?_eq_getElem (by rw [h3.lenS]; exact hk)⟩
  obtain ⟨hu, hf⟩ := h4 k st (Nat.le_refl _) hs
  refine (h5.ask hF h2 hs hf (by omega) hn h3 (Nat.le_trans hB h6) (.inl ⟨by unfold Sst.last; rw [if_pos hu], rfl⟩)).mono ?_
  rintro e w' ⟨rfl, hA, v, v', q1, q2⟩
  refine ⟨_, rfl, fun hr => ?_, fun hr => ?_⟩
  · refine ⟨mk.ask k, ?_, hr, h3.ask k, h4.ask, hA, Nat.le_trans h6 q2.1.size⟩
    rw [← h1, range_drop hk, Mst.asks, if_neg (by simpa using hr)]
  · have e1 : M = mk.ask k := by rw [← h1, range_drop hk, Mst.asks, if_pos hr]
    rw [e1]
    exact ⟨rfl, hA⟩

theorem BegRel.done {w0 : World} {v0 : Value} {B : Nat} {T : List TypeId} {mb hb : Nat} {sv : Value} {fs : List Value} {bottom : Bool} {I : World → List Sst → Prop} {M : Mst} {k : Nat} {wr : World} (hF : FeedLaw B T fs I) 
    (h : BegRel w0 v0 B T mb hb sv fs bottom I M k wr) (hk : fs.length ≤ k) : ∀ W, Below wr.heap.size wr W → BegPost w0 v0 B T mb hb sv fs bottom I M (.returned (.int .i64 0)) W := by
  obtain ⟨mk, h1, h2, h3, h4, h5, h6⟩ := h
  intro W hW
  rw [List.drop_eq_nil_of_le (by simpa using hk)] at h1
  rw [Mst.asks] at h1
  subst h1
  exact ⟨by rw [h2], h5.below hF hW⟩

set_option maxRecDepth 100000 in
set_option maxHeartbeats 1000000 in
theorem begin_calls {B : Nat} {T : List TypeId} {fs : List Value} {I : World → List Sst → Prop} (hF : FeedLaw B T fs I) {w0 w : World} {mb hb : Nat} {sv v0 : Value} {bottom : Bool} {m : Mst}
    (hA : AskInv w0 v0 B T mb hb sv fs bottom false 0 I m w) (hbad : m.bad = 0) (hm : MOk fs.length m) (hfr : Fresh 0 m) (hn : fs.length ≤ 1024) (hB : B ≤ w0.heap.size) (hw : w0.heap.size ≤ w.heap.size) (hmb : B ≤ mb) :
    Calls Try.prog 45 #[.pointer (some ⟨mb, 0, none⟩)] w (BegPost w0 v0 B T mb hb sv fs bottom I m.begin) := by
  obtain ⟨h1, h2, v, L, h3, h4, h5, h6⟩ := hA
  obtain ⟨p, c, hsv, _, hcm, _⟩ := own_rd h1.row
  obtain ⟨_, _, c2, _, _, cf⟩ := h1.cells
  have c2f := cf 2
  clear cf
  obtain ⟨w1, hw1⟩ : ∃ w1, w.setCell ⟨mb, 2, none⟩ (.bool true) = w1 := ⟨_, rfl⟩
  have hbox1 : w1.heap[mb]? = some (.cells #[sv, .bool bottom, .bool true, .iface 82 (.pointer (some ⟨hb, 0, none⟩)), .int .i64 0] 88 (0, 0)) := by
    have hb1 := h1.box
    rw [← hw1]
    simp [World.setCell, Array.getElem?_modify, hb1]
  have hk1 : Kp B mTypes w w1 := by
    rw [← hw1]
    exact (Kp.refl B mTypes w).setCell h1.box (.inr ⟨h1.base, _, rfl, by unfold mTypes; simp⟩) _
  have hM1 : MrgIs w1 B mb hb sv fs bottom true 0 := ⟨hbox1, h1.base, hk1.own h1.row (.inl (by decide))⟩
  have hne : ∀ x, x ≠ mb → w1.heap[x]? = w.heap[x]? := fun x hx => by rw [← hw1]; exact Below.heap_setCell w ⟨mb, 2, none⟩ _ x hx
  have hap := h1.apart h3
  simp only [List.mem_cons, List.not_mem_nil, or_false, not_or] at hap
  have hP1 : PileD w1 B hb v L := by
    refine ⟨by rw [hne hb (fun e => hap.1.1 (by rw [e]))]; exact h3.box, h3.base, ?_⟩
    rw [← hw1]
    exact own_setCell h3.row (p := ⟨mb, 2, none⟩) (fun e => hap.1.2 e.symm) _
  have hsz : w1.heap.size = w.heap.size := by rw [← hw1]; simp [World.setCell]
  have hN1 : NK B T mb hb w0 v0 w1 v := by rw [← hw1]; exact h6.setM 2 _
  obtain ⟨c0, _⟩ := hM1.cells
  have HR : Hid (BegRel w0 v0 B T mb hb sv fs bottom I m.begin 0 w1) := Lib.hid ⟨{ m with begun := true }, by unfold Mst.begin; rw [hm.lenS]; rfl, hbad, ⟨hm.lenS, hm.lenF, hm.std⟩, hfr, ⟨hM1, hF.keep h2 hk1, v, L, hP1, h4, h5, hN1⟩, by omega⟩
  have HRound := Lib.hid (fun k wr (h : BegRel w0 v0 B T mb hb sv fs bottom I m.begin k wr) (hk : k < fs.length) => h.round hF hn hB hk)
  have HDone := Lib.hid (fun wr (h : BegRel w0 v0 B T mb hb sv fs bottom I m.begin fs.length wr) => h.done hF (Nat.le_refl _))
  rw [hsv] at c0
  obtain ⟨n, hln⟩ : ∃ n, fs.length = n := ⟨_, rfl⟩
  rw [hln] at c0 HRound HDone hn
  clear h1 h2 h3 h4 h5 h6 hbox1 hk1 hM1 hne hap hP1 hsz hN1 hbad hm hfr hF hsv hln
  go_enter Try.func45, Try.ntmps45
  go_wp2
  try rw [hw1]
  clear hw1 c2 c2f
  go_loopw [13] (fun i wr => ∃ k : Nat, k ≤ n ∧ i = .int .i64 k ∧ BegRel w0 v0 B T mb hb sv fs bottom I m.begin k wr) (fun i _ => n - (intOf i).toNat)
  case atStart => exact ⟨0, Nat.zero_le _, rfl, HR.out⟩
  case round =>
    obtain ⟨k, hk, rfl, hR⟩ := hrel
    by_cases hlt : k < n
    · have HC := Lib.hid (HRound.out k wr hR hlt)
      clear hR
      go_wp2_with fail
      refine HC.out.mono ?_
      rintro e w2 ⟨r, rfl, hr1, hr2⟩
      by_cases hr : r = 0
      · subst hr
        have HR2 := Lib.hid (hr1 rfl)
        clear hr1 hr2
        go_wp2
        go_roundw
        case rel => exact ⟨k + 1, by omega, by go_num, HR2.out⟩
        case measure => simp [intOf]; omega
      · have HR2 := Lib.hid (hr2 hr)
        have hne : (r != 0) = true := by rw [bne_iff_ne]; exact hr
        clear hr1 hr2
        go_wp2
        go_ret
        exact HR2.out
    · obtain rfl : k = n := by omega
      have HD := Lib.hid (HDone.out wr hR)
      clear hR
      go_wp2
      go_ret
      exact HD.out _ (Below.refl _ _)
end Go.Proofs.Ytahdaccmokjgpaa

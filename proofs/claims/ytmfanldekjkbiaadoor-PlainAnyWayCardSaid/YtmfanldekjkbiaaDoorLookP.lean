/-
  WALK: look: each pair's hit is handed to a function, in whatever order; what that function keeps is an invariant.
-/
import Derived.Test.YtmfanldekjkbiaaDoorPlainA
import Derived.Test.YtmfanldekjkbiaaDoorDist
import Derived.Shelf.Abstract
namespace Go.Proofs.YtmfanldekjkbiaaDoor
open Go.RowKit
set_option linter.unusedVariables false

/-- A pair's hit. -/
def hitOf (q : ByteArray) (p : Pv) : Hv := ⟨((wt (xorL q.data.toList p.c.data.toList) : Nat) : Int), p.i, p.c⟩

/-- What the function leaves that a hit is handed to. -/
def SeePost (I : World → List Hv → (Nat → Prop) → Prop) (W : World) (V : List Hv) (F : Nat → Prop) (h : Hv) (e : Ending) (W' : World) : Prop :=
  e = .returned (.tuple #[]) ∧ ∃ F', I W' (V ++ [h]) F' ∧ FrP W W' F ∧ ∀ b, F' b → F b ∨ W.heap.size ≤ b

/-- What is asked of it. -/
structure SeeLaw (f g : Nat) (I : World → List Hv → (Nat → Prop) → Prop) (Ok : Hv → Prop) (N : Nat) : Prop where
  enters : ∀ args W, (callFunc f args).run Tryd.prog W = .ok (.enter f args) W
  lt : ∀ {W V F}, I W V F → ∀ b, F b → b < W.heap.size
  keep : ∀ {W W' V F G}, I W V F → FrP W W' G → (∀ b, F b → ¬ G b) → I W' V F
  see : ∀ {W V F h}, I W V F → Ok h → V.length < N → Calls Tryd.prog f #[h.val, .pointer (some ⟨g, 0, none⟩)] W (SeePost I W V F h)

theorem OnesTab.of {w w' : World} (h : OnesTab w) (e : w'.heap[0]? = w.heap[0]?) : OnesTab w' := fun i hi => (World.cell?_of_block (a := ⟨0, i, none⟩) e).trans (h i hi)

theorem nodup_len : ∀ (V L : List Pv), V.Nodup → (∀ x ∈ V, x ∈ L) → V.length ≤ L.length
  | [], _, _, _ => Nat.zero_le _
  | a :: V, L, hn, hs => by
    obtain ⟨h1, h2⟩ := List.nodup_cons.1 hn
    have ha := hs a (by simp)
    have := nodup_len V (L.erase a) h2 (fun x hx => (List.mem_erase_of_ne (fun e : x = a => h1 (by rw [← e]; exact hx))).2 (hs x (by simp [hx])))
    rw [List.length_erase_of_mem ha] at this
    have hp := List.length_pos_of_mem ha
    rw [List.length_cons]
    omega

/-- The range's head. -/
def LookRel (I : World → List Hv → (Nat → Prop) → Prop) (w : World) (pb : Nat) (L : List Pv) (q : ByteArray) (F0 : Nat → Prop) (V : List Pv) (wr : World) : Prop :=
  ∃ F, RngIs wr pb w.heap.size L V ∧ I wr (V.map (hitOf q)) F ∧ FrP w wr F0 ∧ ∀ b, F b → F0 b ∨ w.heap.size < b

/-- What look leaves. -/
def LookPost (I : World → List Hv → (Nat → Prop) → Prop) (w : World) (L : List Pv) (q : ByteArray) (F0 : Nat → Prop) (e : Ending) (w' : World) : Prop :=
  e = .returned (.int .i64 0) ∧ ∃ (V : List Pv) (F' : Nat → Prop), V.Perm L ∧ I w' (V.map (hitOf q)) F' ∧ FrP w w' F0 ∧ ∀ b, F' b → F0 b ∨ w.heap.size ≤ b

section
variable {I : World → List Hv → (Nat → Prop) → Prop} {Ok : Hv → Prop} {f g N : Nat}

theorem LookRel.next (hs : SeeLaw f g I Ok N) {w wr w1 : World} {pb : Nat} {L V V' : List Pv} {q : ByteArray} {F0 : Nat → Prop} (h : LookRel I w pb L q F0 V wr) (h0 : ∀ b, F0 b → b < w.heap.size) (hR : RngIs w1 pb w.heap.size L V') (hg : wr.grownBy w1 (some w.heap.size)) :
    ∃ F, I w1 (V.map (hitOf q)) F ∧ FrP w w1 F0 ∧ ∀ b, F b → F0 b ∨ w.heap.size < b := by
  obtain ⟨F, _, hI, hF, hFb⟩ := h
  have hfr : FrP wr w1 (fun b => b = w.heap.size) := ⟨hg.os, hg.tape, hg.output, hg.size, fun b hb hn => hg.block b hb (fun e => hn (Option.some.inj e))⟩
  refine ⟨F, hs.keep hI hfr (fun b hb e => ?_), hF.trans hfr (fun b e => .inr (by omega)), hFb⟩
  rcases hFb b hb with k | k
  · have := h0 b k; omega
  · omega

theorem LookRel.saw {w w1 w2 w3 : World} {pb : Nat} {L V : List Pv} {q : ByteArray} {F0 F : Nat → Prop} {p : Pv} {e : Ending} (hpb : pb < w.heap.size) (h0 : ∀ b, F0 b → b < w.heap.size) (hp0 : ¬ F0 pb) (hR : RngIs w1 pb w.heap.size L (V ++ [p])) (hF : FrP w w1 F0) (hFb : ∀ b, F b → F0 b ∨ w.heap.size < b) (hb : Below w1.heap.size w1 w2)
    (hS : SeePost I w2 (V.map (hitOf q)) F (hitOf q p) e w3) : LookRel I w pb L q F0 (V ++ [p]) w3 ∧ w3.rangeLeft pb w.heap.size = w1.rangeLeft pb w.heap.size := by
  obtain ⟨_, F', hI', hF', hFn⟩ := hS
  have hr1 := hR.lt
  have hnp : ¬ F pb := fun k => by
    rcases hFb pb k with k | k
    · exact hp0 k
    · omega
  have hnr : ¬ F w.heap.size := fun k => by
    rcases hFb _ k with k | k
    · have := h0 _ k; omega
    · omega
  have hs2 := hb.size
  have hR3 := hR.kept ((hF'.2.2.2.2 pb (by omega) hnp).trans (hb.block pb (by omega))) ((hF'.2.2.2.2 w.heap.size (by omega) hnr).trans (hb.block w.heap.size hr1))
  refine ⟨⟨F', hR3.1, by rw [List.map_append]; exact hI', ?_, fun b hb => ?_⟩, hR3.2⟩
  · refine (hF.trans (G := fun _ => False) (FrP.of_below hb) (fun _ k => k.elim)).trans hF' (fun b k => ?_)
    rcases hFb b k with k | k
    · exact .inl k
    · exact .inr (by omega)
  · rcases hFn b hb with k | k
    · exact hFb b k
    · exact .inr (by omega)

set_option maxRecDepth 100000 in
set_option maxHeartbeats 4000000 in
theorem look_calls (hs : SeeLaw f g I Ok N) {w : World} {mb pb W : Nat} {S : Int} {L : List Pv} (h : MapIs w mb pb W S L) (hW : W ≤ 1024) (q : ByteArray) (hq : q.size = W / 8) (hOk : ∀ p ∈ L, Ok (hitOf q p)) (hN : L.length ≤ N) (hT : OnesTab w) (F0 : Nat → Prop) (hI : I w [] F0)
    (hmb : ¬ F0 mb) (hpb : ¬ F0 pb) (hgb : ¬ F0 0) :
    Calls Tryd.prog 29 #[.pointer (some ⟨mb, 0, none⟩), .string q, .func (.func f) #[] #[.pointer (some ⟨g, 0, none⟩)]] w (LookPost I w L q F0) := by
  obtain ⟨c0, c1, c2, f1⟩ := h.cells
  have HM := Lib.hid h
  have HP := Lib.hid h.2.1
  have H0 := Lib.hid (hs.lt hI)
  have HI := Lib.hid hI
  have HT := Lib.hid hT
  have HOk := Lib.hid hOk
  have HFt := Lib.hid h.2.2
  have hplt := h.lt.2
  have HD : Hid (∀ p ∈ L, ∀ W, OnesTab W → Calls Tryd.prog 11 #[.string q, .string p.c] W fun e w' => e = .returned (.tuple #[.int .i64 (wt (xorL q.data.toList p.c.data.toList) : Nat), .int .i64 0]) ∧ Below W.heap.size W w') := Lib.hid (fun p hp Wd hd => by
    have hz := (h.2.2 p hp).2.2
    have hc := Distance_below q p.c (by omega) (by omega) Wd hd
    have hdd : distR q.data.toList p.c.data.toList = (wt (xorL q.data.toList p.c.data.toList), 0) := by
      unfold distR
      rw [if_neg]
      have e1 : q.data.toList.length = q.size := rfl
      have e2 : p.c.data.toList.length = p.c.size := rfl
      rw [e1, e2]
      omega
    rw [hdd] at hc
    exact hc)
  have hne : ((q.size : Int) != (W : Int) / 8) = false := by rw [bne_eq_false_iff_eq]; omega
  have hw0 : (0 : Int) ≤ (W : Int) := by omega
  have hent := hs.enters
  clear h hI hT hOk
  go_enter Tryd.func29, Tryd.ntmps29
  go_wp2_with (first | (at_range; refine wpList_range_pairs _ rfl _ rfl pb L rfl HP.out ?_; intro w0 hR0 hb0 hs0) | go_in)
  go_frame
  have HL0 : Hid (LookRel I w pb L q F0 [] w0) := Lib.hid ⟨F0, hR0, hs.keep HI.out (FrP.of_below (F := fun _ => False) hb0) (fun _ _ k => k), FrP.of_below hb0, fun b hb => .inl hb⟩
  clear hR0 hb0 hs0
  go_loopw [7] (fun _ wr => ∃ V, LookRel I w pb L q F0 V wr) (fun _ wr => wr.rangeLeft pb w.heap.size)
  case atStart => exact ⟨_, HL0.out⟩
  case round =>
    obtain ⟨V, hLR⟩ := hrel
    have HLR := Lib.hid hLR
    have hR := hLR.choose_spec.1
    clear hLR
    go_wp2_with (first | (at_next; refine wpList_next_pairs _ rfl _ rfl pb w.heap.size L V rfl hR ?_ ?_) | go_in)
    · intro hperm
      have HE : Hid (LookPost I w L q F0 (.returned (.int .i64 0)) wr) := Lib.hid (by
        obtain ⟨F, _, k1, k2, k3⟩ := HLR.out
        exact ⟨rfl, V, F, hperm, k1, k2, fun b hb => (k3 b hb).imp id (fun k => by omega)⟩)
      clear hR hperm
      go_wp2
      go_ret
      exact HE.out
    · intro p w1 hpL hpV hR1 hlt1 hg1 hs1 hen
      obtain ⟨F, hI1, hF1, hFb⟩ := HLR.out.next hs H0.out hR1 hg1
      have HR1 := Lib.hid hR1
      have HI1 := Lib.hid hI1
      have HF1 := Lib.hid hF1
      have HFb := Lib.hid hFb
      have HLt := Lib.hid hlt1
      have HT1 : Hid (OnesTab w1) := Lib.hid (HT.out.of (hF1.2.2.2.2 _ HT.out.lt hgb))
      have HVl : Hid (V.length < L.length) := Lib.hid (by
        obtain ⟨_, _, _, _, _, _, _, k5, k6⟩ := hR1
        have hsub := nodup_len _ _ k6 k5
        rw [List.length_append] at hsub
        simp at hsub
        omega)
      have HpL := Lib.hid hpL
      clear hR1 hI1 hF1 hFb hlt1 hg1 hR hpV hs1
      go_wp2_with fail
      refine (HD.out p HpL.out _ (HT1.out.below ((Below.refl _ _).alloc (Nat.le_refl _) _))).mono ?_
      rintro e w2 ⟨rfl, hb2⟩
      have hc2 : w2.cell? ⟨w1.heap.size, 0, none⟩ = some (.string p.c) := (hb2.cell (by simp)).trans (by simp)
      have HB2 : Hid (Below w1.heap.size w1 w2) := Lib.hid (((Below.refl _ _).alloc (Nat.le_refl _) _).trans (hb2.mono (by simp)))
      have HI2 : Hid (I w2 (V.map (hitOf q)) F) := Lib.hid (hs.keep HI1.out (FrP.of_below (F := fun _ => False) HB2.out) (fun _ _ k => k))
      clear hb2
      go_wp2_with fail
      refine (hs.see HI2.out (HOk.out p HpL.out) (by rw [List.length_map]; have := HVl.out; omega)).mono ?_
      rintro e w3 hS3
      have HS := Lib.hid (LookRel.saw hplt H0.out hpb HR1.out HF1.out HFb.out HB2.out hS3)
      obtain ⟨rfl, _⟩ := hS3
      go_wp2
      go_roundw
      case rel => exact ⟨V ++ [p], HS.out.1⟩
      case measure => rw [HS.out.2]; exact HLt.out

set_option maxRecDepth 100000 in
theorem look_bad {w : World} {mb pb W : Nat} {S : Int} {L : List Pv} (h : MapIs w mb pb W S L) (hW : W ≤ 1024) (q : ByteArray) (hq : q.size ≠ W / 8) (hq2 : q.size ≤ 140737488351232) (v : Value) :
    Calls Tryd.prog 29 #[.pointer (some ⟨mb, 0, none⟩), .string q, v] w fun e w' => e = .returned (.int .i64 11) ∧ w' = w := by
  obtain ⟨c0, c1, c2, f1⟩ := h.cells
  have hne : ((q.size : Int) != (W : Int) / 8) = true := by rw [bne_iff_ne]; omega
  have hw0 : (0 : Int) ≤ (W : Int) := by omega
  clear h
  go_enter Tryd.func29, Tryd.ntmps29
  go_wp2
  go_ret
  exact ⟨rfl, rfl⟩
end
end Go.Proofs.YtmfanldekjkbiaaDoor

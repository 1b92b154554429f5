/-
  WALKS: Radius and TopK of a map of pairs; what their function literals keep.
-/
import Derived.Test.YtmfanldekjkbiaaDoorLookP
import Derived.Test.YtmfanldekjkbiaaDoorNear
namespace Go.Proofs.YtmfanldekjkbiaaDoor
open Go.RowKit
set_option linter.unusedVariables false

/-- A captured variable that leads to a top or a ball, which keeps Tf of what was seen. -/
def SeeI (ty vt : TypeId) (g tb : Nat) (n : Int) (Tf : List Hv → List Hv) (W : World) (V : List Hv) (F : Nat → Prop) : Prop :=
  ∃ F1, W.heap[g]? = some (.cells #[.pointer (some ⟨tb, 0, none⟩)] vt (0, 0)) ∧ Heap1 ty W tb n (Tf V) F1 ∧ ¬ F1 g ∧ F = fun b => b = g ∨ F1 b

section
variable {ty vt : TypeId} {g tb : Nat} {n : Int} {Tf : List Hv → List Hv} {W W' : World} {V : List Hv} {F G : Nat → Prop}

theorem SeeI.glt (h : SeeI ty vt g tb n Tf W V F) : g < W.heap.size := by
  obtain ⟨F1, h1, _⟩ := h
  exact (Array.getElem?_eq_some_iff.1 h1).1

theorem SeeI.lt (h : SeeI ty vt g tb n Tf W V F) : ∀ b, F b → b < W.heap.size := by
  have hg := h.glt
  obtain ⟨F1, h1, h2, h3, rfl⟩ := h
  rintro b (rfl | k)
  · exact hg
  · exact h2.lt b k

theorem SeeI.keep (h : SeeI ty vt g tb n Tf W V F) (hf : FrP W W' G) (hd : ∀ b, F b → ¬ G b) : SeeI ty vt g tb n Tf W' V F := by
  have hg := h.glt
  obtain ⟨F1, h1, h2, h3, rfl⟩ := h
  exact ⟨F1, (hf.2.2.2.2 g hg (hd g (.inl rfl))).trans h1, h2.keep hf (fun b k => hd b (.inr k)), h3, rfl⟩

theorem SeeI.cell (h : SeeI ty vt g tb n Tf W V F) : W.cell? ⟨g, 0, none⟩ = some (.pointer (some ⟨tb, 0, none⟩)) := by
  obtain ⟨F1, h1, _⟩ := h
  simp [World.cell?, h1]

theorem SeeI.step {W1 : World} {h : Hv} {b : Bool} {e : Ending} {F1 : Nat → Prop} (h1 : W.heap[g]? = some (.cells #[.pointer (some ⟨tb, 0, none⟩)] vt (0, 0))) (h3 : ¬ F1 g) (hb : Below W.heap.size W W1) (hA : AddedPost ty W1 tb n (Tf (V ++ [h])) b F1 e W') :
    SeePost (SeeI ty vt g tb n Tf) W V (fun b => b = g ∨ F1 b) h (.returned (.tuple #[])) W' := by
  have hg : g < W.heap.size := (Array.getElem?_eq_some_iff.1 h1).1
  obtain ⟨_, F2, k1, k2, k3⟩ := hA
  have hs := hb.size
  refine ⟨rfl, _, ⟨F2, ((k2.2.2.2.2 g (by omega) h3).trans (hb.block g hg)).trans h1, k1, fun k => ?_, rfl⟩, (FrP.of_below hb).trans k2 (fun x k => .inl (.inr k)), ?_⟩
  · rcases k3 g k with k | k
    · exact h3 k
    · omega
  · rintro x (rfl | k)
    · exact .inl (.inl rfl)
    · rcases k3 x k with k | k
      · exact .inl (.inr k)
      · exact .inr (by omega)

theorem SeeI.new {w w1 : World} {F1 : Nat → Prop} (h : Heap1 ty w1 tb n (Tf []) F1) (hG : Gr w w1) (hF : ∀ b, F1 b → w.heap.size ≤ b) :
    SeeI ty vt w1.heap.size tb n Tf (w1.alloc (.cells #[.pointer (some ⟨tb, 0, none⟩)] vt)) [] (fun b => b = w1.heap.size ∨ F1 b) ∧ ∀ b, (b = w1.heap.size ∨ F1 b) → w.heap.size ≤ b := by
  refine ⟨⟨F1, World.alloc_heap_new w1 _, h.below ((Below.refl _ _).alloc (Nat.le_refl _) _), fun k => Nat.lt_irrefl _ (h.lt _ k), rfl⟩, ?_⟩
  rintro b (rfl | k)
  · exact hG.below.size
  · exact hF b k
end

theorem allH_same {H M : List Hv} (h : ∀ x, x ∈ H ↔ x ∈ M) : allH H = allH M := ris_ext (allH_ris H) (allH_ris M) (fun x => by rw [allH_mem, allH_mem]; exact h x)

/-- A ball keeps the near ones, a top the first k. -/
def nearT (r : Int) (V : List Hv) : List Hv := allH (V.filter (near r))

def firstT (k : Nat) (V : List Hv) : List Hv := (allH V).take k

theorem nearT_length (r : Int) (V : List Hv) : (nearT r V).length ≤ V.length := Nat.le_trans (allH_length _) (List.length_filter_le _ _)

theorem nearT_snoc (r : Int) (V : List Hv) (h : Hv) : nearT r (V ++ [h]) = if h.d ≤ r then insH (nearT r V) h else nearT r V := ball_snoc r V h

theorem firstT_snoc (k : Nat) (V : List Hv) (h : Hv) : firstT k (V ++ [h]) = (insH (firstT k V) h).take k := top_snoc k V h

theorem nearT_perm {r : Int} {V M : List Hv} (h : V.Perm M) : nearT r V = nearT r M := allH_same (fun x => (h.filter _).mem_iff)

theorem firstT_perm {k : Nat} {V M : List Hv} (h : V.Perm M) : firstT k V = firstT k M := by
  unfold firstT
  rw [allH_same (fun x => h.mem_iff)]

def hitO (h : Hv) : Obj := .cells #[.int .i64 h.d, .int .i64 h.i, .string h.c] 36

set_option maxRecDepth 100000 in
theorem radSee {g tb : Nat} {r : Int} {W : World} {V : List Hv} {F : Nat → Prop} {h : Hv} (hI : SeeI 91 67 g tb r (nearT r) W V F) (hg : GoodH h) (hn : V.length < 1048576) :
    Calls Tryd.prog 30 #[h.val, .pointer (some ⟨g, 0, none⟩)] W (SeePost (SeeI 91 67 g tb r (nearT r)) W V F h) := by
  have hc := hI.cell
  have hl := nearT_length r V
  obtain ⟨F1, h1, hT, h3, rfl⟩ := hI
  have hb : Below W.heap.size W (W.alloc (hitO h)) := (Below.refl W.heap.size W).alloc (Nat.le_refl _) _
  have a0 := (hb.cell (p := ⟨g, 0, none⟩) (Array.getElem?_eq_some_iff.1 h1).1).trans hc
  have C := ball_add (hT.below hb) h hg (by omega)
  rw [← nearT_snoc] at C
  have HC := Lib.hid C
  have HS := Lib.hid (fun e W' (hA : AddedPost 91 (W.alloc (hitO h)) tb r (nearT r (V ++ [h])) (decide (h.d ≤ r)) F1 e W') => SeeI.step h1 h3 hb hA)
  clear hT hl C h1 h3 hb
  simp only [hitO] at HC HS a0
  simp only [Hv.val] at HC ⊢
  go_enter Tryd.func30, Tryd.ntmps30
  go_wp2_with fail
  refine HC.out.mono ?_
  intro e w' hA
  have HE := Lib.hid (HS.out _ _ hA)
  obtain ⟨rfl, _⟩ := hA
  go_wp2
  go_end0
  exact HE.out

set_option maxRecDepth 100000 in
theorem topSee {g tb k : Nat} {W : World} {V : List Hv} {F : Nat → Prop} {h : Hv} (hI : SeeI 93 74 g tb (k : Int) (firstT k) W V F) (hk : k ≤ 4096) (hg : GoodH h) :
    Calls Tryd.prog 34 #[h.val, .pointer (some ⟨g, 0, none⟩)] W (SeePost (SeeI 93 74 g tb (k : Int) (firstT k)) W V F h) := by
  have hc := hI.cell
  have hl : (firstT k V).length ≤ k := by simp [firstT]; omega
  obtain ⟨F1, h1, hT, h3, rfl⟩ := hI
  have hb : Below W.heap.size W (W.alloc (hitO h)) := (Below.refl W.heap.size W).alloc (Nat.le_refl _) _
  have a0 := (hb.cell (p := ⟨g, 0, none⟩) (Array.getElem?_eq_some_iff.1 h1).1).trans hc
  have C := top_add (hT.below hb) hk hl h hg
  rw [← firstT_snoc] at C
  generalize decide (h ∈ firstT k (V ++ [h])) = bb at C
  have HC := Lib.hid C
  have HS := Lib.hid (fun e W' (hA : AddedPost 93 (W.alloc (hitO h)) tb (k : Int) (firstT k (V ++ [h])) bb F1 e W') => SeeI.step h1 h3 hb hA)
  clear hT hl C h1 h3 hb
  simp only [hitO] at HC HS a0
  simp only [Hv.val] at HC ⊢
  go_enter Tryd.func34, Tryd.ntmps34
  go_wp2_with fail
  refine HC.out.mono ?_
  intro e w' hA
  have HE := Lib.hid (HS.out _ _ hA)
  obtain ⟨rfl, _⟩ := hA
  go_wp2
  go_end0
  exact HE.out

theorem ballLaw (g tb : Nat) (r : Int) : SeeLaw 30 g (SeeI 91 67 g tb r (nearT r)) GoodH 1048576 :=
  ⟨enters_of Tryd.func30 (by kernel_rfl) rfl, fun h => h.lt, fun h hf hd => h.keep hf hd, fun h hg hn => radSee h hg hn⟩

theorem topLaw (g tb k : Nat) (hk : k ≤ 4096) : SeeLaw 34 g (SeeI 93 74 g tb (k : Int) (firstT k)) GoodH 1048576 :=
  ⟨enters_of Tryd.func34 (by kernel_rfl) rfl, fun h => h.lt, fun h hf hd => h.keep hf hd, fun h hg hn => topSee h hk hg⟩

/-- What a search leaves. -/
def FoundPost (w : World) (T : List Hv) (e : Ending) (w' : World) : Prop :=
  ∃ v, e = .returned (.tuple #[v, .int .i64 0]) ∧ w'.ownsRow w.heap.size 36 3 v T.length (encH T) ∧ Below w.heap.size w w'

theorem hitOf_good {q : ByteArray} {W : Nat} {p : Pv} (hW : W ≤ 1024) (hq : q.size = W / 8) (hp : 0 ≤ p.i ∧ p.i ≤ 281474976710656 ∧ p.c.size = W / 8) : GoodH (hitOf q p) := by
  have h1 := wt_le (xorL q.data.toList p.c.data.toList)
  have e1 : q.data.toList.length = q.size := rfl
  have e2 : p.c.data.toList.length = p.c.size := rfl
  have h2 : (xorL q.data.toList p.c.data.toList).length = q.size := by
    rw [xorL_length _ _ (by rw [e1, e2]; omega), e1]
  rw [h2] at h1
  refine ⟨WalkArith.wf_i64 (by simp only [hitOf]; omega), WalkArith.wf_i64 (by simp only [hitOf]; omega), by simp only [hitOf]; omega⟩

set_option maxRecDepth 100000 in
set_option maxHeartbeats 2000000 in
theorem radius_ok {w : World} {mb pb W : Nat} {S : Int} {L : List Pv} (h : MapIs w mb pb W S L) (hW : W ≤ 1024) (q : ByteArray) (hq : q.size = W / 8) (r : Int) (h0 : 0 ≤ r) (h1 : r ≤ W) (hT : OnesTab w) (hL : L.length ≤ 1048576) :
    Calls Tryd.prog 12 #[.pointer (some ⟨mb, 0, none⟩), .string q, .int .i64 r] w (FoundPost w (nearT r (L.map (hitOf q)))) := by
  obtain ⟨c0, c1, c2, f1⟩ := h.cells
  have HM := Lib.hid h
  have HT := Lib.hid hT
  have hne : ((q.size : Int) != (W : Int) / 8) = false := by rw [bne_eq_false_iff_eq]; omega
  have hw0 : (0 : Int) ≤ (W : Int) := by omega
  have d1 : decide ((W : Int) < r) = false := by simp; omega
  have C := Lib.hid (newBall_ok r h0 (by omega) w)
  have hOk : ∀ p ∈ L, GoodH (hitOf q p) := fun p hp => hitOf_good hW hq (h.2.2 p hp)
  have HOk := Lib.hid hOk
  have hml := h.lt
  clear h hT hOk
  go_enter Tryd.func12, Tryd.ntmps12
  go_wp2_with fail
  refine C.out.mono ?_
  rintro e w1 ⟨tb, F1, rfl, hH, hG, hF⟩
  obtain ⟨hI, hFb⟩ := SeeI.new (ty := 91) (vt := 67) (Tf := nearT r) hH hG hF
  have hG2 := hG.alloc (.cells #[.pointer (some ⟨tb, 0, none⟩)] 67)
  have HI := Lib.hid hI
  have HFb := Lib.hid hFb
  have HG2 := Lib.hid hG2
  have a0 := (hG2.below.cell (p := ⟨mb, 0, none⟩) hml.1).trans c0
  have HL := Lib.hid (look_calls (ballLaw w1.heap.size tb r) (HM.out.gr hG2) hW q hq HOk.out hL (HT.out.below hG2.below) _ hI (fun k => by have := hFb _ k; omega) (fun k => by have := hFb _ k; omega) (fun k => by have := hFb _ k; have := HT.out.lt; omega))
  clear hH hG hF hI hFb hG2
  go_wp2_with fail
  refine HL.out.mono ?_
  rintro e w3 ⟨rfl, V, F', hp, hI3, hF3, _⟩
  have hc3 := hI3.cell
  have HFr : Hid (Below w.heap.size w w3) := Lib.hid (HG2.out.below.trans (hF3.below HG2.out.below.size (fun b k => HFb.out b k)))
  obtain ⟨F2, _, hH3, _⟩ := hI3
  have hlen := nearT_length r (V.map (hitOf q))
  rw [List.length_map, hp.length_eq] at hlen
  have HB := Lib.hid (ball_list hH3 (by omega))
  rw [nearT_perm (hp.map (hitOf q))] at HB
  clear hF3 hH3 hp hlen
  go_wp2_with fail
  refine HB.out.mono ?_
  rintro e w4 ⟨v, rfl, hv, hb4⟩
  have HE : Hid (FoundPost w (nearT r (L.map (hitOf q))) (.returned (.tuple #[v, .int .i64 0])) w4) := Lib.hid ⟨v, rfl, own_le hv HFr.out.size, HFr.out.trans (hb4.mono HFr.out.size)⟩
  clear hv hb4
  go_wp2
  go_ret2
  exact HE.out

set_option maxRecDepth 100000 in
set_option maxHeartbeats 2000000 in
theorem topk_ok {w : World} {mb pb W : Nat} {S : Int} {L : List Pv} (h : MapIs w mb pb W S L) (hW : W ≤ 1024) (q : ByteArray) (hq : q.size = W / 8) (k : Nat) (hk : k ≤ 4096) (hT : OnesTab w) (hL : L.length ≤ 1048576) :
    Calls Tryd.prog 13 #[.pointer (some ⟨mb, 0, none⟩), .string q, .int .i64 (k : Int)] w (FoundPost w (firstT k (L.map (hitOf q)))) := by
  obtain ⟨c0, c1, c2, f1⟩ := h.cells
  have HM := Lib.hid h
  have HT := Lib.hid hT
  have hne : ((q.size : Int) != (W : Int) / 8) = false := by rw [bne_eq_false_iff_eq]; omega
  have hw0 : (0 : Int) ≤ (W : Int) := by omega
  have C := Lib.hid (newTop_ok (k : Int) (by omega) (by omega) w)
  have hOk : ∀ p ∈ L, GoodH (hitOf q p) := fun p hp => hitOf_good hW hq (h.2.2 p hp)
  have HOk := Lib.hid hOk
  have hml := h.lt
  clear h hT hOk
  go_enter Tryd.func13, Tryd.ntmps13
  go_wp2_with fail
  refine C.out.mono ?_
  rintro e w1 ⟨tb, F1, rfl, hH, hG, hF⟩
  obtain ⟨hI, hFb⟩ := SeeI.new (ty := 93) (vt := 74) (Tf := firstT k) (by simpa [firstT, allH] using hH) hG hF
  have hG2 := hG.alloc (.cells #[.pointer (some ⟨tb, 0, none⟩)] 74)
  have HFb := Lib.hid hFb
  have HG2 := Lib.hid hG2
  have HL := Lib.hid (look_calls (topLaw w1.heap.size tb k hk) (HM.out.gr hG2) hW q hq HOk.out hL (HT.out.below hG2.below) _ hI (fun k => by have := hFb _ k; omega) (fun k => by have := hFb _ k; omega) (fun k => by have := hFb _ k; have := HT.out.lt; omega))
  clear hH hG hF hI hFb hG2
  go_wp2_with fail
  refine HL.out.mono ?_
  rintro e w3 ⟨rfl, V, F', hp, hI3, hF3, _⟩
  have hc3 := hI3.cell
  have HFr : Hid (Below w.heap.size w w3) := Lib.hid (HG2.out.below.trans (hF3.below HG2.out.below.size (fun b k => HFb.out b k)))
  obtain ⟨F2, _, hH3, _⟩ := hI3
  have hlen : (firstT k (V.map (hitOf q))).length ≤ k := by simp [firstT]; omega
  have HB := Lib.hid (top_list hH3 (by omega))
  rw [firstT_perm (hp.map (hitOf q))] at HB
  clear hF3 hH3 hp hlen
  go_wp2_with fail
  refine HB.out.mono ?_
  rintro e w4 ⟨v, rfl, hv, hb4⟩
  have HE : Hid (FoundPost w (firstT k (L.map (hitOf q))) (.returned (.tuple #[v, .int .i64 0])) w4) := Lib.hid ⟨v, rfl, own_le hv HFr.out.size, HFr.out.trans (hb4.mono HFr.out.size)⟩
  clear hv hb4
  go_wp2
  go_ret2
  exact HE.out
end Go.Proofs.YtmfanldekjkbiaaDoor

/-
  WALKS: Histogram of a map of pairs, and what its function literal keeps.
-/
import Derived.Test.YtmfanldekjkbiaaDoorTriP
namespace Go.Proofs.YtmfanldekjkbiaaDoor
open Go.RowKit
set_option linter.unusedVariables false

/-- How many hits are at a distance. -/
def cntD (V : List Hv) (d : Nat) : Nat := (V.filter (fun h => h.d == (d : Int))).length

def cntV (N : Nat) (V : List Hv) : List Value := (List.range N).map fun d => .int .i64 (cntD V d : Nat)

theorem cntV_length (N : Nat) (V : List Hv) : (cntV N V).length = N := by simp [cntV]

theorem cntV_get {N : Nat} {V : List Hv} {d : Nat} (h : d < N) : (cntV N V)[d]? = some (.int .i64 (cntD V d : Nat)) := by simp [cntV, h]

theorem cntD_snoc (V : List Hv) (h : Hv) (d : Nat) : cntD (V ++ [h]) d = cntD V d + if h.d = (d : Int) then 1 else 0 := by
  unfold cntD
  rw [List.filter_append, List.length_append]
  by_cases e : h.d = (d : Int)
  · simp [e]
  · simp [e]

theorem cntV_snoc {N : Nat} {V : List Hv} {h : Hv} {d : Nat} (hd : h.d = (d : Int)) (hN : d < N) : cntV N (V ++ [h]) = (cntV N V).set d (.int .i64 ((cntD V d : Nat) + 1 : Int)) := by
  refine List.ext_getElem? fun j => ?_
  rw [List.getElem?_set, cntV_length]
  by_cases hj : j < N
  · rw [cntV_get hj, cntV_get hj, cntD_snoc, hd]
    by_cases e : d = j
    · subst e
      simp [hj]
    · have : ¬ ((d : Int) = (j : Int)) := by omega
      simp [e, this]
  · have e : d ≠ j := by omega
    rw [if_neg e, List.getElem?_eq_none (by rw [cntV_length]; omega), List.getElem?_eq_none (by rw [cntV_length]; omega)]

theorem cntD_perm {V M : List Hv} (h : V.Perm M) (d : Nat) : cntD V d = cntD M d := (h.filter _).length_eq

theorem cntV_perm {N : Nat} {V M : List Hv} (h : V.Perm M) : cntV N V = cntV N M := by
  unfold cntV
  congr 1
  funext d
  rw [cntD_perm h]

theorem cntD_le (V : List Hv) (d : Nat) : cntD V d ≤ V.length := List.length_filter_le _ _

theorem own_frpH {w w' : World} {F : Nat → Prop} {base : Nat} {e : TypeId} {size : Nat} {v : Value} {n : Nat} {xs : List Value} (h : w.ownsRow base e size v n xs) (hf : FrP w w' F) (hd : ∀ g, v.ownBlock = some g → ¬ F g) : w'.ownsRow base e size v n xs := by
  refine ⟨h.1, ?_⟩
  rcases h.2 with hn | ⟨g, cap, cur, rfl, hbg, hg, rest⟩
  · exact .inl hn
  · exact .inr ⟨g, cap, cur, rfl, hbg, (hf.2.2.2.2 g (Array.getElem?_eq_some_iff.1 hg).1 (hd g rfl)).trans hg, rest⟩

/-- The captured variable that leads to the counts. -/
def HistI (g gn N : Nat) (W : World) (V : List Hv) (F : Nat → Prop) : Prop :=
  W.heap[g]? = some (.cells #[.slice (some ⟨gn, 0, none⟩) N N] 38 (0, 0)) ∧ W.ownsRow 0 3 1 (.slice (some ⟨gn, 0, none⟩) N N) N (cntV N V) ∧ g ≠ gn ∧ F = fun b => b = g ∨ b = gn

theorem HistI.lt {g gn N : Nat} {W : World} {V : List Hv} {F : Nat → Prop} (h : HistI g gn N W V F) : ∀ b, F b → b < W.heap.size := by
  obtain ⟨h1, h2, _, rfl⟩ := h
  rintro b (rfl | rfl)
  · exact (Array.getElem?_eq_some_iff.1 h1).1
  · exact (h2.lt _ rfl).2

theorem HistI.keep {g gn N : Nat} {W W' : World} {V : List Hv} {F G : Nat → Prop} (h : HistI g gn N W V F) (hf : FrP W W' G) (hd : ∀ b, F b → ¬ G b) : HistI g gn N W' V F := by
  have hl := h.lt
  obtain ⟨h1, h2, h3, rfl⟩ := h
  exact ⟨(hf.2.2.2.2 g (hl g (.inl rfl)) (hd g (.inl rfl))).trans h1, own_frpH h2 hf (fun k hk => hd k (.inr (Option.some.inj hk).symm)), h3, rfl⟩

/-- A hit that can be counted. -/
def OkN (N : Nat) (h : Hv) : Prop := 0 ≤ h.d ∧ h.d < (N : Int)

set_option maxRecDepth 100000 in
set_option maxHeartbeats 1000000 in
theorem histSee {g gn N : Nat} {W : World} {V : List Hv} {F : Nat → Prop} {h : Hv} (hI : HistI g gn N W V F) (hO : OkN N h) (hn : V.length < 1048576) (hN : N ≤ 1025) :
    Calls Tryd.prog 37 #[h.val, .pointer (some ⟨g, 0, none⟩)] W (SeePost (HistI g gn N) W V F h) := by
  obtain ⟨d, hd⟩ : ∃ d : Nat, h.d = (d : Int) := ⟨h.d.toNat, by have := hO.1; omega⟩
  have hdN : d < N := by have := hO.2; omega
  have hcb := cntD_le V d
  have hl := hI.lt
  have hb : Below W.heap.size W (W.alloc (hitO h)) := (Below.refl W.heap.size W).alloc (Nat.le_refl _) _
  have hI1 := hI.keep (FrP.of_below (F := fun _ => False) hb) (fun _ _ k => k)
  obtain ⟨k1, k2, k3, rfl⟩ := hI1
  have a0 : (W.alloc (hitO h)).cell? ⟨g, 0, none⟩ = some (.slice (some ⟨gn, 0, none⟩) N N) := by simp [World.cell?, k1]
  have a1 : (W.alloc (hitO h)).cell? ⟨gn, d, none⟩ = some (.int .i64 (cntD V d : Nat)) := by rw [k2.cellAt d (by omega), cntV_get hdN]
  have a2 := k2.frozenAt d
  have hst := (k2.stored d (.int .i64 ((cntD V d : Nat) + 1 : Int))).1
  rw [← cntV_snoc hd hdN] at hst
  have HE : Hid (SeePost (HistI g gn N) W V (fun b => b = g ∨ b = gn) h (.returned (.tuple #[])) ((W.alloc (hitO h)).setCell ⟨gn, d, none⟩ (.int .i64 ((cntD V d : Nat) + 1 : Int)))) := Lib.hid (by
    refine ⟨rfl, _, ⟨(Below.heap_setCell _ _ _ _ k3).trans k1, hst, k3, rfl⟩, ?_, fun b hb => .inl hb⟩
    refine (FrP.of_below hb).trans (G := fun b => b = g ∨ b = gn) ⟨rfl, rfl, rfl, by simp [World.setCell], fun b _ hn => Below.heap_setCell _ _ _ _ (fun e => hn (.inr e))⟩ (fun b k => .inl k))
  clear hI k1 k2 hst hb hl
  simp only [hitO, hd] at a0 a1 a2 HE
  simp only [Hv.val, hd]
  obtain ⟨cd, hcd⟩ : ∃ cd, cntD V d = cd := ⟨_, rfl⟩
  rw [hcd] at a1 hcb HE
  have i0 : (0 : Int) ≤ (d : Int) := by omega
  have i1 : (d : Int) < (N : Int) := by omega
  clear hcd hd
  go_enter Tryd.func37, Tryd.ntmps37
  go_wp2
  go_end0
  exact HE.out

theorem histLaw (g gn N : Nat) (hN : N ≤ 1025) : SeeLaw 37 g (HistI g gn N) (OkN N) 1048576 :=
  ⟨enters_of Tryd.func37 (by kernel_rfl) rfl, fun h => h.lt, fun h hf hd => h.keep hf hd, fun h hO hn => histSee h hO hn hN⟩

theorem intinfoP : (Tryd.prog.info? 3).map (fun i => (i.zero, i.size, i.bytes)) = some (some (.int .i64 0), 1, 8) := by kernel_rfl

/-- What Histogram leaves. -/
def HistPost (w : World) (N : Nat) (V : List Hv) (e : Ending) (w' : World) : Prop :=
  ∃ gn, e = .returned (.tuple #[.slice (some ⟨gn, 0, none⟩) N N, .int .i64 0]) ∧ w'.ownsRow w.heap.size 3 1 (.slice (some ⟨gn, 0, none⟩) N N) N (cntV N V) ∧ Below w.heap.size w w'

theorem made_cnt (N : Nat) : (madeCells #[.int .i64 0] N).toList = cntV N [] := by
  refine List.ext_getElem? fun j => ?_
  by_cases hj : j < N
  · rw [cntV_get hj]
    simp [madeCells, cntD, hj, Nat.mod_one]
  · rw [List.getElem?_eq_none (by simp [madeCells]; omega), List.getElem?_eq_none (by rw [cntV_length]; omega)]

theorem own_rebase {w : World} {b base : Nat} {e : TypeId} {size g n c : Nat} {m : Nat} {xs : List Value} (h : w.ownsRow b e size (.slice (some ⟨g, 0, none⟩) n c) m xs) (hb : base ≤ g) : w.ownsRow base e size (.slice (some ⟨g, 0, none⟩) n c) m xs := by
  refine ⟨h.1, ?_⟩
  rcases h.2 with ⟨e, _⟩ | ⟨g', cap', cur, e, _, r⟩
  · cases e
  · have e2 := e
    cases e
    exact .inr ⟨g, c, cur, e2, hb, r⟩

theorem hist_row (w : World) (N : Nat) (hN : N ≤ 1025) : (w.alloc (.cells (madeCells #[.int .i64 0] N) 3)).ownsRow 0 3 1 (.slice (some ⟨w.heap.size, 0, none⟩) N N) N (cntV N []) := by
  rw [← made_cnt]
  exact World.ownsRow_lit w _ N (Nat.zero_le _) (by unfold maxLen; omega) (by simp [madeCells])

theorem hist_start (w : World) (N : Nat) (hN : N ≤ 1025) :
    HistI (w.heap.size + 1) w.heap.size N ((w.alloc (.cells (madeCells #[.int .i64 0] N) 3)).alloc (.cells #[.slice (some ⟨w.heap.size, 0, none⟩) N N] 38)) [] (fun b => b = w.heap.size + 1 ∨ b = w.heap.size) ∧
    Gr w ((w.alloc (.cells (madeCells #[.int .i64 0] N) 3)).alloc (.cells #[.slice (some ⟨w.heap.size, 0, none⟩) N N] 38)) := by
  have h := hist_row w N hN
  have hG : Gr w (w.alloc (.cells (madeCells #[.int .i64 0] N) 3)) := (Gr.refl _).alloc _
  have hs : (w.alloc (.cells (madeCells #[.int .i64 0] N) 3)).heap.size = w.heap.size + 1 := by simp
  generalize w.alloc (.cells (madeCells #[.int .i64 0] N) 3) = w1 at h hG hs ⊢
  refine ⟨⟨?_, own_belowAll h ((Below.refl _ _).alloc (Nat.le_refl _) _), by omega, rfl⟩, hG.alloc _⟩
  rw [← hs]
  exact World.alloc_heap_new w1 _

theorem hist_end {w w3 : World} {N : Nat} {V : List Hv} {F F' : Nat → Prop} {w2 : World} (hI : HistI (w.heap.size + 1) w.heap.size N w3 V F') (hG : Gr w w2) (hF : FrP w2 w3 (fun b => b = w.heap.size + 1 ∨ b = w.heap.size)) :
    HistPost w N V (.returned (.tuple #[.slice (some ⟨w.heap.size, 0, none⟩) N N, .int .i64 0])) w3 ∧ w3.cell? ⟨w.heap.size + 1, 0, none⟩ = some (.slice (some ⟨w.heap.size, 0, none⟩) N N) := by
  obtain ⟨k1, k2, _, _⟩ := hI
  exact ⟨⟨w.heap.size, rfl, own_rebase k2 (Nat.le_refl _), hG.below.trans (hF.below hG.below.size (fun b k => by omega))⟩, by simp [World.cell?, k1]⟩

set_option maxRecDepth 100000 in
set_option maxHeartbeats 2000000 in
theorem hist_ok {w : World} {mb pb W : Nat} {S : Int} {L : List Pv} (h : MapIs w mb pb W S L) (hW : W ≤ 1024) (h8 : W % 8 = 0) (q : ByteArray) (hq : q.size = W / 8) (hT : OnesTab w) (hL : L.length ≤ 1048576) :
    Calls Tryd.prog 14 #[.pointer (some ⟨mb, 0, none⟩), .string q] w (HistPost w (W + 1) (L.map (hitOf q))) := by
  obtain ⟨c0, c1, c2, f1⟩ := h.cells
  have hml := h.lt
  obtain ⟨N, hN⟩ : ∃ N, W + 1 = N := ⟨_, rfl⟩
  obtain ⟨i0, hi, hz0, hz1, hz2⟩ := info_parts intinfoP
  have hmk := fun W : World => run_make (P := Tryd.prog) W 38 3 i0 _ Tryd.underlying38 hi hz0 .i64 .i64 (N : Int) (N : Int) (by omega) (by omega) (by rw [hz2]; omega) (by omega)
  simp only [Int.toNat_natCast, hz1, Nat.mul_one, show (Value.int .i64 0).cells = #[.int .i64 0] from rfl] at hmk
  have hWN : (W : Int) + 1 = (N : Int) := by omega
  obtain ⟨hI, hG2⟩ := hist_start w N (by omega)
  have hOk : ∀ p ∈ L, OkN N (hitOf q p) := fun p hp => by
    have hb := dB_le (a := q) (b := p.c) (by have := (h.2.2 p hp).2.2; omega)
    unfold dB at hb
    constructor
    · simp only [hitOf]; omega
    · simp only [hitOf]; omega
  have HL := Lib.hid (look_calls (histLaw (w.heap.size + 1) w.heap.size N (by omega)) (h.gr hG2) hW q hq hOk hL (hT.below hG2.below) _ hI (fun k => by omega) (fun k => by omega) (fun k => by have := hT.lt; omega))
  have HG2 := Lib.hid hG2
  rw [hN]
  clear h hT hOk hI hG2 hN
  go_enter Tryd.func14, Tryd.ntmps14
  go_wp2_with fail
  refine HL.out.mono ?_
  rintro e w3 ⟨rfl, V, F', hp, hI3, hF3, _⟩
  obtain ⟨hE, a0⟩ := hist_end (F := F') hI3 HG2.out hF3
  have HE := Lib.hid hE
  have HPp := Lib.hid (hp.map (hitOf q))
  clear hF3 hp hI3 hE
  go_wp2
  go_ret2
  have := HE.out
  unfold HistPost at this ⊢
  rw [cntV_perm HPp.out] at this
  exact this
end Go.Proofs.YtmfanldekjkbiaaDoor

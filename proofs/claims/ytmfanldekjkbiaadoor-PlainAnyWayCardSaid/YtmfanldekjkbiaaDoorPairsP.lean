/-
  WALK: Pairs of a map: all of them, by their numbers.
-/
import Derived.Test.YtmfanldekjkbiaaDoorSortQ
import Derived.Test.YtmfanldekjkbiaaDoorFilled
import Derived.Test.YtmfanldekjkbiaaDoorHistP
namespace Go.Proofs.YtmfanldekjkbiaaDoor
open Go.RowKit
set_option linter.unusedVariables false

/-- What Pairs leaves. -/
def PairsPost (w : World) (L : List Pv) (e : Ending) (w' : World) : Prop :=
  ∃ v T, e = .returned v ∧ w'.ownsRow w.heap.size 49 2 v L.length (encP T) ∧ T.Perm L ∧ RisP T ∧ Below w.heap.size w w'

/-- The range's head. -/
def PairsRel (w : World) (pb r : Nat) (L V : List Pv) (v : Value) (wr : World) : Prop :=
  RngIs wr pb r L V ∧ wr.ownsRow w.heap.size 49 2 v V.length (encP V) ∧ Below w.heap.size w wr

theorem rng_apart {wr : World} {pb r : Nat} {L V : List Pv} {base n : Nat} {v : Value} {xs : List Value} (h : RngIs wr pb r L V) (hr : wr.ownsRow base 49 2 v n xs) : v.ownBlock ≠ some pb ∧ v.ownBlock ≠ some r := by
  obtain ⟨D, left, cnt, ⟨es, clock, since, seen, c0, hb, _, _, _, hr2, _⟩, _⟩ := h
  rcases hr.2 with ⟨rfl, _⟩ | ⟨k, c, cur, rfl, _, hk, _⟩
  · exact ⟨(by intro e; cases e), (by intro e; cases e)⟩
  · refine ⟨fun e => ?_, fun e => ?_⟩
    · obtain rfl := Option.some.inj e
      rw [hb] at hk
      cases hk
    · obtain rfl := Option.some.inj e
      rw [hr2] at hk
      cases hk

theorem own_grownO {w w' : World} {r base : Nat} {e : TypeId} {size : Nat} {v : Value} {n : Nat} {xs : List Value} (h : w.ownsRow base e size v n xs) (hg : w.grownBy w' (some r)) (hn : v.ownBlock ≠ some r) : w'.ownsRow base e size v n xs := by
  refine ⟨h.1, ?_⟩
  rcases h.2 with hn | ⟨g, cap, cur, rfl, hbg, hh, rest⟩
  · exact .inl hn
  · exact .inr ⟨g, cap, cur, rfl, hbg, (hg.block g (Array.getElem?_eq_some_iff.1 hh).1 hn).trans hh, rest⟩

theorem PairsRel.len {w wr : World} {pb r : Nat} {L V : List Pv} {v : Value} (h : PairsRel w pb r L V v wr) : V.length ≤ L.length := by
  obtain ⟨⟨_, _, _, _, _, _, _, k5, k6⟩, _⟩ := h
  exact nodup_len _ _ k6 k5

set_option maxRecDepth 100000 in
set_option maxHeartbeats 4000000 in
theorem pairs_calls {w : World} {mb pb W : Nat} {S : Int} {L : List Pv} (h : MapIs w mb pb W S L) (hL : L.length * 24 ≤ 140737488355328) :
    Calls Tryd.prog 18 #[.pointer (some ⟨mb, 0, none⟩)] w (PairsPost w L) := by
  obtain ⟨c0, c1, c2, f1⟩ := h.cells
  have hnd := h.2.1.nodup
  obtain ⟨m, hm⟩ : ∃ m, L.length = m := ⟨_, rfl⟩
  rw [hm] at hL
  obtain ⟨i0, hi, hz0, hz1, hz2⟩ := info_parts pairinfo
  have hmk := fun W : World => run_make (P := Tryd.prog) W 22 49 i0 _ Tryd.underlying22 hi hz0 .i64 .i64 (0 : Int) (m : Int) (by omega) (by omega) (by rw [hz2]; omega) (by omega)
  simp only [Int.toNat_natCast, hz1, show (Value.agg #[.int .i64 0, .string ⟨#[]⟩]).cells = #[.int .i64 0, .string ⟨#[]⟩] from rfl, show (0 : Int).toNat = 0 from rfl] at hmk
  have hmk1 := hmk w
  have hrow := World.ownsRow_made (base := w.heap.size) (e := 49) (size := 2) w (madeCells #[.int .i64 0, .string ⟨#[]⟩] (m * 2)) m (Nat.le_refl _) (by unfold maxLen; omega) (by simp [madeCells])
  have hmk2 : (Instr.makeSlice 22 (.int .i64 0) (.int .i64 (m : Int))).run Tryd.prog w = .ok (.slice (some ⟨w.heap.size, 0, none⟩) 0 m) (w.alloc (.cells (madeCells #[.int .i64 0, .string ⟨#[]⟩] (m * 2)) 49)) := by
    have e : m * 2 = 2 * m ∨ m * 2 = m * 2 := .inr rfl
    first | exact hmk1 | (rw [Nat.mul_comm]; exact hmk1)
  obtain ⟨w1, hw1⟩ : ∃ w1, w.alloc (.cells (madeCells #[.int .i64 0, .string ⟨#[]⟩] (m * 2)) 49) = w1 := ⟨_, rfl⟩
  have hG1 : Gr w w1 := by rw [← hw1]; exact (Gr.refl _).alloc _
  rw [hw1] at hrow hmk2
  have HM1 := Lib.hid (h.gr hG1)
  obtain ⟨a0, a1, a2, _⟩ := HM1.out.cells
  have HM := Lib.hid h
  have HRow := Lib.hid hrow
  have HG1 := Lib.hid hG1
  have HNd := Lib.hid hnd
  have HLm := Lib.hid hm
  clear h hnd hm hrow hG1 hmk hmk1 hw1
  go_enter Tryd.func18, Tryd.ntmps18
  go_wp2_with (first | (at_len; refine wpList_len_pairs _ rfl _ rfl pb L rfl HM.out.2.1 ?_; rw [HLm.out]) | (at_range; refine wpList_range_pairs _ rfl _ rfl pb L rfl HM1.out.2.1 ?_; intro w0 hR0 hb0 hs0) | go_in)
  go_frame
  have HR0 : Hid (PairsRel w pb w1.heap.size L [] (.slice (some ⟨w.heap.size, 0, none⟩) 0 m) w0) := Lib.hid ⟨hR0, own_belowAll HRow.out hb0, HG1.out.below.trans (hb0.mono HG1.out.below.size)⟩
  clear hR0 hb0 hs0
  go_loopw [3] (fun v wr => ∃ (lv : Value) (V : List Pv), lv = v ∧ PairsRel w pb w1.heap.size L V lv wr) (fun _ wr => wr.rangeLeft pb w1.heap.size)
  case atStart => exact ⟨_, [], rfl, HR0.out⟩
  case round =>
    obtain ⟨lv, V, rfl, hPR⟩ := hrel
    have HPR := Lib.hid hPR
    have hR := hPR.1
    clear hPR
    go_wp2_with (first | (at_next; refine wpList_next_pairs _ rfl _ rfl pb w1.heap.size L V rfl hR ?_ ?_) | go_in)
    · intro hperm
      have HPm := Lib.hid hperm
      have hln : V.length = m := by rw [hperm.length_eq, HLm.out]
      have hrow := HPR.out.2.1
      rw [hln] at hrow
      obtain ⟨pv, cv, rfl, _⟩ := own_rd hrow
      have HS := Lib.hid (sortP_calls hrow ((hperm.map (fun p : Pv => p.i)).nodup_iff.2 HNd.out) (by omega))
      clear hR hperm hln hrow
      go_wp2_with fail
      refine HS.out.mono ?_
      rintro e w4 ⟨rfl, T, ho, hpT, hrT, hg⟩
      have HE : Hid (PairsPost w L (.returned (.slice pv m cv)) w4) := Lib.hid (by
        refine ⟨_, T, rfl, by rw [HLm.out]; exact ho, hpT.trans HPm.out, hrT, HPR.out.2.2.grown hg HPR.out.2.2.size (fun k hk => (ho.lt k hk).1)⟩)
      clear ho hpT hrT hg
      go_wp2
      go_ret
      exact HE.out
    · intro p w2 hpL hpV hR1 hlt1 hg1 hs1 hen
      have hap := rng_apart HPR.out.1 HPR.out.2.1
      have hrow := own_grownO HPR.out.2.1 hg1 hap.2
      have hbl : Below w.heap.size w w2 := HPR.out.2.2.grown hg1 HPR.out.2.2.size (fun k hk => by cases hk; have := HG1.out.below.size; omega)
      obtain ⟨pv, cv, rfl, hcv, _, _⟩ := own_rd hrow
      have hVl : V.length + 1 ≤ L.length := by
        obtain ⟨_, _, _, _, _, _, _, k5, k6⟩ := hR1
        have := nodup_len _ _ k6 k5
        rw [List.length_append] at this
        simpa using this
      have HR1 := Lib.hid hR1
      have HLt := Lib.hid hlt1
      have HBl := Lib.hid hbl
      have HGO := Lib.hid (fun g (hg : (Value.slice pv V.length cv).ownBlock = some g) => (hrow.lt g hg).1)
      have HAp := Lib.hid (rng_apart hR1 hrow)
      have hva := own_belowAll hrow ((((Below.refl w2.heap.size w2).alloc (Nat.le_refl _) (.cells #[.string p.c] 79))).alloc (by simp) (.cells #[.int .i64 p.i, .string p.c] 49))
      have hnews := World.news_of_block (cs := #[.int .i64 p.i, .string p.c]) (t := 49) (fr := (0, 0)) (World.alloc_heap_new (w2.alloc (.cells #[.string p.c] 79)) (.cells #[.int .i64 p.i, .string p.c] 49))
      rw [show (w2.alloc (.cells #[.string p.c] 79)).heap.size = w2.heap.size + 1 by simp] at hnews
      have hsz := hbl.size
      rw [HLm.out] at hVl
      clear hR1 hlt1 hg1 hs1 hR hpV hap hrow hbl hpL
      go_wp2_with (at_builtin; refine wpList_append_two _ rfl _ _ 22 rfl w.heap.size 49 i0 _ 2 24 Tryd.underlying22 hi hz0 hz1 hz2 rfl (by decide) (.slice pv V.length cv) V.length _ rfl hva ⟨w2.heap.size + 1, 0, none⟩ 1 1 (Pv.cells p) rfl rfl hnews (by simp [Value.oneCell', Pv.cells]) (by decide) (by unfold maxLen; omega) (by omega) (by simp; omega) ?_; intro g' capn y3 hown' hold hlies hlt2)
      have HN := Lib.hid (by
        have hb2 : Below w2.heap.size w2 ((w2.alloc (.cells #[.string p.c] 79)).alloc (.cells #[.int .i64 p.i, .string p.c] 49)) := (((Below.refl w2.heap.size w2).alloc (Nat.le_refl _) _).alloc (by simp) _)
        have hpl := HR1.out.pairs.lt
        have hrl := HR1.out.lt
        have k := HR1.out.kept ((hlies.block (k := pb) (by simp; omega) HAp.out.1).trans (hb2.block pb hpl)) ((hlies.block (k := w1.heap.size) (by simp; omega) HAp.out.2).trans (hb2.block w1.heap.size hrl))
        exact (⟨⟨k.1, by rw [List.length_append, encP_snoc]; exact hown', hlies.below (HBl.out.trans (hb2.mono HBl.out.size)) (by simp; omega) (fun q hq => HGO.out q hq)⟩, k.2⟩ : PairsRel w pb w1.heap.size L (V ++ [p]) (.slice (some ⟨g', 0, none⟩) (V.length + 1) capn) y3 ∧ y3.rangeLeft pb w1.heap.size = w2.rangeLeft pb w1.heap.size))
      clear hown' hold hlies hlt2 hva hnews
      go_wp2
      go_roundw
      case rel => exact ⟨_, V ++ [p], rfl, HN.out.1⟩
      case measure => rw [HN.out.2]; exact HLt.out
end Go.Proofs.YtmfanldekjkbiaaDoor

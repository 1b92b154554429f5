/-
  WALK: Copy of a map of pairs: maps.Clone out of the shelf.
-/
import Derived.Test.YtmfanldekjkbiaaDoorPlainB
import Derived.Shelf.SlMaps.Clone
import Derived.Shelf.Abstract
import Derived.Deep.RegionHeld3
import Derived.Deep.DeepCutAuto
namespace Go.Proofs.YtmfanldekjkbiaaDoor
open Go.Shelf Go.RowKit Go.Lib
set_option linter.unusedVariables false

def cloneMap_ren : Go.Shelf.Ren := ⟨fun | 5 => 42 | 7 => 53 | n => n, fun | 3 => 79 | 4 => 4 | 20 => 20 | 23 => 64 | 25 => 3 | n => n, fun n => n⟩

theorem cloneMap : SlLaysW.n5 Tryd.prog cloneMap_ren := {
  mixed := by kernel_rfl,
  f5 := ⟨Tryd.f42.name, by decide, Tryd.func42.trans (congrArg some (by kernel_rfl))⟩,
  f7 := Tryd.func53.trans (congrArg some (by kernel_rfl)),
  t4 := Tryd.underlying4,
  a4 := Tryd.isAgg4,
  z4 := Tryd.sizeOf4,
  v4 := Tryd.zeroValue4,
  t20 := Tryd.underlying20,
  a20 := Tryd.isAgg20,
  z20 := Tryd.sizeOf20,
  v20 := Tryd.zeroValue20,
  t23 := Tryd.underlying64,
  a23 := Tryd.isAgg64,
  z23 := Tryd.sizeOf64,
  v23 := Tryd.zeroValue64 }

theorem clone_pairs {w : World} {b : Nat} {L : List Pv} (h : PairsIs w b L) :
    Calls Tryd.prog 42 #[.map (some b)] w fun e w' => ∃ b', e = .returned (.map (some b')) ∧ w.heap.size ≤ b' ∧ PairsIs w' b' L ∧ Below w.heap.size w w' := by
  obtain ⟨D, h1, h2⟩ := h
  have hcon := AnyW.maps_Clone_owns cloneMap 3 heldElem b L.length D w h1
  change Calls Tryd.prog 42 _ _ _ at hcon
  exact hcon.mono fun e w' ⟨he, k1, _, hB⟩ => ⟨w.heap.size, he, Nat.le_refl _, ⟨D, k1, h2⟩, hB⟩

/-- What Copy leaves. -/
def CopyPost (w : World) (W : Nat) (S : Int) (L : List Pv) (e : Ending) (w' : World) : Prop :=
  ∃ mb pb, e = .returned (.pointer (some ⟨mb, 0, none⟩)) ∧ MapIs w' mb pb W S L ∧ Below w.heap.size w w' ∧ w.heap.size ≤ mb ∧ w.heap.size ≤ pb

theorem copy_post {w w1 : World} {pb' W : Nat} {S : Int} {L : List Pv} (hb : Below w.heap.size w w1) (hp : w.heap.size ≤ pb') (h1 : PairsIs w1 pb' L) (hF : FitP W L) :
    CopyPost w W S L (.returned (.pointer (some ⟨w1.heap.size, 0, none⟩))) (w1.alloc (.cells #[.int .i64 (W : Int), .int .i64 S, .map (some pb')] 66)) :=
  ⟨w1.heap.size, pb', rfl, ⟨World.alloc_heap_new w1 _, h1.of (Below.heap_alloc _ _ _ h1.lt), hF⟩, hb.alloc hb.size _, hb.size, hp⟩

set_option maxRecDepth 100000 in
set_option maxHeartbeats 2000000 in
theorem copy_calls {w : World} {mb pb W : Nat} {S : Int} {L : List Pv} (h : MapIs w mb pb W S L) :
    Calls Tryd.prog 19 #[.pointer (some ⟨mb, 0, none⟩)] w (CopyPost w W S L) := by
  obtain ⟨c0, c1, c2, f1⟩ := h.cells
  have HU : Hid (∀ X, Below w.heap.size w X → X.cell? ⟨mb, 0, none⟩ = some (.int .i64 (W : Int)) ∧ X.cell? ⟨mb, 1, none⟩ = some (.int .i64 S) ∧ X.cell? ⟨mb, 2, none⟩ = some (.map (some pb))) := Lib.hid (fun X hb => by
    obtain ⟨k0, k1, k2, _⟩ := (h.below hb).cells
    exact ⟨k0, k1, k2⟩)
  have HFt := Lib.hid h.2.2
  have HC := Lib.hid (fun X (hX : Gr w X) => clone_pairs (h.gr hX).2.1)
  have hbu : ∀ (X : World) (b : Nat), (Instr.build 66 #[(0, .int .i64 (W : Int)), (1, .int .i64 S), (2, .map (some b))]).run Tryd.prog X = .ok (.agg #[.int .i64 (W : Int), .int .i64 S, .map (some b)]) X := fun X b => run_build X _ _ _ (by kernel_rfl)
  have hq0 := (Below.refl w.heap.size w).drew
  clear h
  go_enter Tryd.func19, Tryd.ntmps19
  go_wp2_with fail
  go_region_held3 (fun w' => w'.cell? ⟨mb, 0, none⟩ = some (.int .i64 (W : Int)) ∧ w'.cell? ⟨mb, 1, none⟩ = some (.int .i64 S) ∧ w'.cell? ⟨mb, 2, none⟩ = some (.map (some pb)))
    (first | exact HU.out _ hq1 | exact HU.out _ hq0 | exact HU.out _ (hq1.alloc hq1.size _) | exact HU.out _ (Below.refl _ _))
    (first
      | (go_at_call 42; refine (HC.out w.drew (Gr.refl w).drew).mono ?_; rintro e z1 ⟨b', rfl, hb', hP', hq1'⟩; have hq1 : Below w.heap.size w z1 := hq0.trans hq1')
      | (go_at_call 42; refine (HC.out w (Gr.refl w)).mono ?_; rintro e z1 ⟨b', rfl, hb', hP', hq1⟩)
      | fail)
  all_goals (go_wp2_with fail; go_ret; exact copy_post hq1 hb' hP' HFt.out)
end Go.Proofs.YtmfanldekjkbiaaDoor

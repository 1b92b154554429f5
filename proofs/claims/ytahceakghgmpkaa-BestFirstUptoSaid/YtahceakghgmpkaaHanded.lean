/-
  WALKS: handed, in either order.
-/
import Derived.Test.YtahceakghgmpkaaFirst
namespace Go.Proofs.Ytahceakghgmpkaa
open Go.RowKit
set_option linter.unusedVariables false

theorem allH_perm {H M : List Hv} (h : ∀ x, x ∈ H ↔ x ∈ M) : allH H = allH M :=
  ris_ext (allH_ris H) (allH_ris M) (fun x => by rw [allH_mem, allH_mem]; exact h x)

theorem allH_rev (H : List Hv) : allH H.reverse = allH H := allH_perm (fun x => List.mem_reverse)

/-- A top of the first k of the hits, in memory of the call's own. -/
def Owned (ty : TypeId) (w : World) (tb : Nat) (n : Int) (T : List Hv) (wr : World) : Prop :=
  ∃ F, Heap1 ty wr tb n T F ∧ Below w.heap.size w wr ∧ ∀ b, F b → w.heap.size ≤ b

theorem Owned.of_new {ty : TypeId} {w w0 w1 : World} {tb : Nat} {n : Int} {F : Nat → Prop} (hB : Below w.heap.size w w0) (h : Heap1 ty w1 tb n [] F) (hG : Gr w0 w1) (hF : ∀ b, F b → w0.heap.size ≤ b) : Owned ty w tb n [] w1 :=
  ⟨F, h, hB.trans (hG.below.mono hB.size), fun b hb => Nat.le_trans hB.size (hF b hb)⟩

theorem Owned.below {ty : TypeId} {w w1 w2 : World} {tb : Nat} {n : Int} {T : List Hv} (h : Owned ty w tb n T w1) (hb : Below w1.heap.size w1 w2) : Owned ty w tb n T w2 := by
  obtain ⟨F, h1, h2, h3⟩ := h
  exact ⟨F, h1.below hb, h2.trans (hb.mono h2.size), h3⟩

theorem Owned.gr {ty : TypeId} {w w1 w2 : World} {tb : Nat} {n : Int} {T : List Hv} (h : Owned ty w tb n T w1) (hb : Gr w1 w2) : Owned ty w tb n T w2 := h.below hb.below

theorem Owned.added {ty : TypeId} {w w1 w2 : World} {tb : Nat} {n : Int} {T T' : List Hv} {F : Nat → Prop} (h1 : Heap1 ty w1 tb n T F) (h2 : Below w.heap.size w w1) (h3 : ∀ b, F b → w.heap.size ≤ b) {b : Bool} {e : Ending} (h : AddedPost ty w1 tb n T' b F e w2) : e = .returned (.bool b) ∧ Owned ty w tb n T' w2 := by
  obtain ⟨he, F', k1, k2, k3⟩ := h
  refine ⟨he, F', k1, h2.trans (k2.below h2.size h3), fun x hx => ?_⟩
  rcases k3 x hx with h | h
  · exact h3 x h
  · exact Nat.le_trans h2.size h

/-- A hit handed in. -/
theorem owned_add {w w1 : World} {tb k : Nat} {H : List Hv} (h1 : Owned 68 w tb (k : Int) ((allH H).take k) w1) (hk : k ≤ 4096) (h : Hv) (hg : GoodH h) :
    Calls Try.prog 22 #[.pointer (some ⟨tb, 0, none⟩), h.val] w1 fun e w2 => e = .returned (.bool (decide (h ∈ (allH (H ++ [h])).take k))) ∧ Owned 68 w tb (k : Int) ((allH (H ++ [h])).take k) w2 := by
  obtain ⟨F, k1, k2, k3⟩ := h1
  have C := top_add k1 hk (by simp; omega) h hg
  rw [← top_snoc] at C
  exact C.mono fun e w2 hp => Owned.added k1 k2 k3 hp

/-- The head of the loop of handed. -/
def HandRel (w : World) (tb k m : Nat) (H : List Hv) (i : Value) (wr : World) : Prop :=
  ∃ a : Nat, a ≤ m ∧ i = .int .i64 a ∧ Owned 68 w tb (k : Int) ((allH (H.take a)).take k) wr

theorem hand_next {w wr : World} {tb k m a : Nat} {H : List Hv} (ha : a < m) (hm : H.length = m) (h : Owned 68 w tb (k : Int) ((allH (H.take a ++ [hd H a])).take k) wr) : HandRel w tb k m H (.int .i64 (a + 1 : Nat)) wr := by
  refine ⟨a + 1, ha, rfl, ?_⟩
  rw [List.take_add_one, hd_get (by omega : a < H.length)]
  exact h

set_option maxRecDepth 100000 in
set_option maxHeartbeats 2000000 in
theorem handed_fwd (pH : Option Addr) (cH : Nat) (H : List Hv) (k : Nat) (hk : k ≤ 4096) (hHl : H.length ≤ 4611686018427387904) (hgood : ∀ x ∈ H, GoodH x) (w : World) (h1 : HL w pH H) :
    Calls Try.prog 18 #[.int .i64 (k : Int), .slice pH H.length cH, .bool false] w fun e w' => ∃ tb, e = .returned (.pointer (some ⟨tb, 0, none⟩)) ∧ Owned 68 w tb (k : Int) ((allH H).take k) w' := by
  obtain ⟨m, hm⟩ : ∃ m, H.length = m := ⟨_, rfl⟩
  rw [hm] at hHl ⊢
  have HM := Lib.hid hm
  have H1 := Lib.hid h1
  have HGd := Lib.hid hgood
  have C := newTop_ok (k : Int) (by omega) (by omega) w
  clear h1 hm hgood
  go_enter Try.func18, Try.ntmps18
  go_wp2_with fail
  refine C.mono ?_
  rintro e w1 ⟨tb, F, rfl, hT, hG, hF⟩
  have HO := Lib.hid (Owned.of_new (Below.refl w.heap.size w) hT hG hF)
  clear hT hG hF
  go_wp2
  go_loopw [9] (fun i ws => HandRel w tb k m H i ws) (fun i _ => m - (intOf i).toNat)
  case atStart => exact ⟨0, Nat.zero_le _, rfl, by simpa [allH] using HO.out⟩
  case round =>
    obtain ⟨a, ha, rfl, hO⟩ := hrel
    obtain ⟨wo, rfl⟩ : ∃ wo : World, wo = wr := ⟨_, rfl⟩
    have HB : Below w.heap.size w wo := by obtain ⟨_, _, h, _⟩ := hO; exact h
    have HOw := Lib.hid hO
    clear hO HO
    by_cases hlt : a < m
    · have hal : a < H.length := by rw [HM.out]; exact hlt
      obtain ⟨pa, hpa, u0, u1, u2⟩ := (H1.out.below HB) a _ (hd_get hal)
      obtain rfl := hpa
      have i0 : (0 : Int) ≤ (a : Int) := by omega
      have i1 : (a : Int) < (m : Int) := by omega
      have hgd : GoodH (hd H a) := HGd.out _ (List.mem_of_getElem? (hd_get (by first | exact hal | exact hcl)))
      have hA := Lib.hid (fun W (hW : Gr wo W) => owned_add (HOw.out.gr hW) hk (hd H a) hgd)
      have HNx := Lib.hid (fun W hW => hand_next (w := w) (wr := W) (tb := tb) (k := k) (H := H) hlt (by simpa using HM.out) hW)
      go_wp2_with fail
      refine (hA.out _ (Gr.alloc (Gr.refl wo) _)).mono ?_
      rintro e w2 ⟨rfl, hO2⟩
      have HN2 := Lib.hid (HNx.out _ hO2)
      clear hO2
      go_wp2
      go_roundw
      case rel => exact HN2.out
      case measure => simp [intOf]; omega
    · obtain rfl : a = m := by omega
      go_wp2
      go_ret
      refine ⟨tb, rfl, ?_⟩
      have := HOw.out
      have hfull : H.take a = H := List.take_of_length_le (by simpa using Nat.le_of_eq HM.out)
      rw [hfull] at this
      exact this

set_option maxRecDepth 100000 in
set_option maxHeartbeats 2000000 in
theorem handed_back (pH : Option Addr) (cH : Nat) (H : List Hv) (k : Nat) (hk : k ≤ 4096) (hHl : H.length ≤ 4611686018427387904) (hgood : ∀ x ∈ H, GoodH x) (w : World) (h1 : HL w pH H) :
    Calls Try.prog 18 #[.int .i64 (k : Int), .slice pH H.length cH, .bool true] w fun e w' => ∃ tb, e = .returned (.pointer (some ⟨tb, 0, none⟩)) ∧ Owned 68 w tb (k : Int) ((allH H).take k) w' := by
  obtain ⟨m, hm⟩ : ∃ m, H.length = m := ⟨_, rfl⟩
  rw [hm] at hHl ⊢
  have HM := Lib.hid hm
  have H1 := Lib.hid h1
  have HGd := Lib.hid hgood
  have C := newTop_ok (k : Int) (by omega) (by omega) w
  clear h1 hm hgood
  go_enter Try.func18, Try.ntmps18
  go_wp2_with fail
  refine C.mono ?_
  rintro e w1 ⟨tb, F, rfl, hT, hG, hF⟩
  have HO := Lib.hid (Owned.of_new (Below.refl w.heap.size w) hT hG hF)
  clear hT hG hF
  go_wp2
  go_loopw [9] (fun i ws => HandRel w tb k m H.reverse i ws) (fun i _ => m - (intOf i).toNat)
  case atStart => exact ⟨0, Nat.zero_le _, rfl, by simpa [allH] using HO.out⟩
  case round =>
    obtain ⟨a, ha, rfl, hO⟩ := hrel
    obtain ⟨wo, rfl⟩ : ∃ wo : World, wo = wr := ⟨_, rfl⟩
    have HB : Below w.heap.size w wo := by obtain ⟨_, _, h, _⟩ := hO; exact h
    have HOw := Lib.hid hO
    clear hO HO
    by_cases hlt : a < m
    · have hal : a < H.length := by rw [HM.out]; exact hlt
      obtain ⟨pa, hpa, u0, u1, u2⟩ := (H1.out.below HB) a _ (hd_get hal)
      obtain rfl := hpa
      have i0 : (0 : Int) ≤ (a : Int) := by omega
      have i1 : (a : Int) < (m : Int) := by omega
      obtain ⟨c, hc⟩ : ∃ c, m - 1 - a = c := ⟨_, rfl⟩
      have hcl : c < H.length := by rw [HM.out]; omega
      have hrv : hd H.reverse a = hd H c := by
        apply hd_of
        rw [List.getElem?_reverse (by rw [HM.out]; exact hlt), HM.out, hc]
        exact hd_get hcl
      obtain ⟨pb, hpb, v0, v1, v2⟩ := (H1.out.below HB) c _ (hd_get hcl)
      obtain rfl : pa = pb := Option.some.inj hpb
      have v0a : ∀ o, (wo.alloc o).cell? (pa.add (c * 3)) = some (.int .i64 (hd H c).d) := fun o => (World.cell?_alloc_lt _ _ _ (cell_ltH v0)).trans v0
      have v1a : ∀ o, (wo.alloc o).cell? ⟨(pa.add (c * 3)).block, (pa.add (c * 3)).off + 1, none⟩ = some (.int .i64 (hd H c).i) := fun o => (World.cell?_alloc_lt _ _ ⟨(pa.add (c * 3)).block, (pa.add (c * 3)).off + 1, none⟩ (cell_ltH v1)).trans v1
      have v2a : ∀ o, (wo.alloc o).cell? ⟨(pa.add (c * 3)).block, (pa.add (c * 3)).off + 2, none⟩ = some (.string (hd H c).c) := fun o => (World.cell?_alloc_lt _ _ ⟨(pa.add (c * 3)).block, (pa.add (c * 3)).off + 2, none⟩ (cell_ltH v2)).trans v2
      have i2 : (0 : Int) ≤ (c : Int) := by omega
      have i3 : (c : Int) < (m : Int) := by omega
      have i4 : (m : Int) - 1 - (a : Int) = (c : Int) := by omega
      have hgd : GoodH (hd H c) := HGd.out _ (List.mem_of_getElem? (hd_get (by first | exact hal | exact hcl)))
      have hA := Lib.hid (fun W (hW : Gr wo W) => owned_add (HOw.out.gr hW) hk (hd H c) hgd)
      have HNx := Lib.hid (fun W hW => hand_next (w := w) (wr := W) (tb := tb) (k := k) (H := H.reverse) hlt (by simpa using HM.out) hW)
      rw [hrv] at HNx
      go_wp2_with fail
      refine (hA.out _ (Gr.alloc (Gr.refl wo) _)).mono ?_
      rintro e w2 ⟨rfl, hO2⟩
      have HN2 := Lib.hid (HNx.out _ hO2)
      clear hO2
      go_wp2
      go_roundw
      case rel => exact HN2.out
      case measure => simp [intOf]; omega
    · obtain rfl : a = m := by omega
      go_wp2
      go_ret
      refine ⟨tb, rfl, ?_⟩
      have := HOw.out
      have hfull : H.reverse.take a = H.reverse := List.take_of_length_le (by simpa using Nat.le_of_eq HM.out)
      rw [hfull, allH_rev] at this
      exact this

end Go.Proofs.Ytahceakghgmpkaa

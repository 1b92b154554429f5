/-
  WALK: Pop of a merger's heads.
-/
import Derived.Test.YtahdaccmokjgpaaHdw
namespace Go.Proofs.Ytahdaccmokjgpaa
open Go.RowKit ArgK
set_option linter.unusedVariables false

/-- What Pop leaves. -/
def PopPost (w : World) (B hb n : Nat) (v : Value) (L : List Hdv) (e : Ending) (w' : World) : Prop :=
  e = .returned (.iface 100 (hdG L n).val) ∧ ∃ v', PileD w' B hb v' (L.take n) ∧ PKeep hb w v w' v'

set_option maxRecDepth 100000 in
set_option maxHeartbeats 1000000 in
theorem PopD_calls {w : World} {B hb n : Nat} {v : Value} {L : List Hdv} (h : PileD w B hb v L) (hl : L.length = n + 1) (hn : n ≤ 1000000) :
    Calls Try.prog 79 #[.pointer (some ⟨hb, 0, none⟩)] w (PopPost w B hb n v L) := by
  obtain ⟨g, c, rfl⟩ := h.at (j := n) (by omega)
  obtain ⟨x0, x1, x2, x3, x4, x5⟩ := own_sixD h.row (hdG_get (L := L) (j := n) (by omega))
  obtain ⟨c0, c1⟩ := h.cell
  have hlt := h.lt
  have hgl := cell_lt x0
  obtain ⟨pc, cpc, hvc, hcl, hcm, _⟩ := own_rd h.row
  obtain ⟨rfl, rfl⟩ : some ⟨g, 0, none⟩ = pc ∧ c = cpc := by simpa using hvc
  rw [hl] at c0 hcl
  have HPost : Hid (∀ w1 : World, Below w.heap.size (w.setCell ⟨hb, 0, none⟩ (.slice (some ⟨g, 0, none⟩) n c)) w1 → PopPost w B hb n (.slice (some ⟨g, 0, none⟩) L.length c) L (.returned (.iface 100 (hdG L n).val)) w1) := Lib.hid (by
    intro w1 k1
    have hr := h.row
    rw [hl] at hr
    have hb1 := h.box
    have h2 : PileD (w.setCell ⟨hb, 0, none⟩ (.slice (some ⟨g, 0, none⟩) n c)) B hb (.slice (some ⟨g, 0, none⟩) n c) (L.take n) := by
      refine ⟨?_, h.base, ?_⟩
      · simp [World.setCell, Array.getElem?_modify, hb1]
      · rw [List.length_take, hl, Nat.min_eq_left (by omega)]
        exact own_setCell (own_takeD hr (k := n) (by omega)) (p := ⟨hb, 0, none⟩) (fun e => h.apart e) _
    have hz : (w.setCell ⟨hb, 0, none⟩ (.slice (some ⟨g, 0, none⟩) n c)).heap.size = w.heap.size := by simp [World.setCell]
    have k2 : Below (w.setCell ⟨hb, 0, none⟩ (.slice (some ⟨g, 0, none⟩) n c)).heap.size (w.setCell ⟨hb, 0, none⟩ (.slice (some ⟨g, 0, none⟩) n c)) w1 := by rw [hz]; exact k1
    exact ⟨rfl, _, h2.keep (T := []) (Kp.of_below (B := B) k2) (by simp) (by simp), ⟨((Fr.refl w _).setCell (p := ⟨hb, 0, none⟩) (fun _ => by simp) _).trans (Fr.of_below k2 _), .inl rfl⟩⟩)
  unfold Hdv.val at HPost
  generalize hdG L n = x at x0 x1 x2 x3 x4 x5 HPost
  have i1 : (n : Int) ≤ (c : Int) := by omega
  have i0 : (0 : Int) ≤ (n : Int) := by omega
  have i2 : (n : Int) < (n : Int) + 1 := by omega
  have i3 : n ≤ c := by omega
  have e1 : ¬ (w.heap.size = hb) := by omega
  have e2 : ¬ (hb = w.heap.size) := by omega
  clear h hvc hcl hcm hl
  have hmi : ∀ (W : World) (a : Array Value), (Instr.makeInterface 100 (.agg a)).run Try.prog W = .ok (.iface 100 (.agg a)) W := fun _ _ => by kernel_rfl
  go_enter Try.func79, Try.ntmps79
  go_wp2
  go_region
  go_wp2
  go_region
  go_wp2
  go_ret
  exact HPost.out _ ((((Below.refl _ _).alloc (by simp [World.setCell]) _).drew).drew)
end Go.Proofs.Ytahdaccmokjgpaa

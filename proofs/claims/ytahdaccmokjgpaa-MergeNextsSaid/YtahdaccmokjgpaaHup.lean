/-
  WALKS: container/heap over a merger's heads.
-/
import Derived.Test.YtahdaccmokjgpaaHpop
import Derived.Deep.LoopGhost
namespace Go.Proofs.Ytahdaccmokjgpaa
open Go.RowKit ArgK
set_option linter.unusedVariables false

theorem meth_Push (hb : Nat) (x : Value) (w : World) : (callMethod (.iface 82 (.pointer (some ⟨hb, 0, none⟩))) "Push" #[x]).run Try.prog w = .ok (.enter 80 #[.pointer (some ⟨hb, 0, none⟩), x]) w := by kernel_rfl

theorem meth_Pop (hb : Nat) (w : World) : (callMethod (.iface 82 (.pointer (some ⟨hb, 0, none⟩))) "Pop" #[]).run Try.prog w = .ok (.enter 79 #[.pointer (some ⟨hb, 0, none⟩)]) w := by kernel_rfl

theorem meth_least (hb : Nat) (w : World) : (callMethod (.iface 82 (.pointer (some ⟨hb, 0, none⟩))) "kindred/merge.least" #[]).run Try.prog w = .ok (.enter 82 #[.pointer (some ⟨hb, 0, none⟩)]) w := by kernel_rfl

theorem meth_Len {hb : Nat} {w : World} {p : Option Addr} {n c : Nat} (h : w.cell? ⟨hb, 0, none⟩ = some (.slice p n c)) : (callMethod (.iface 82 (.pointer (some ⟨hb, 0, none⟩))) "Len" #[]).run Try.prog w = .ok (.enter 77 #[.slice p n c]) w := by
  have hl : (loadVar 84 ⟨hb, 0, none⟩).run Try.prog w = .ok (.slice p n c) w := by go_simp
  have hc : ∀ (a : Array Value) (w : World), (callFunc 77 a).run Try.prog w = .ok (.enter 77 a) w := fun a w => by kernel_rfl
  have hw : ∀ (w : World), (Builtin.ssaWrapNilChk_ #[82] 82 #[.pointer (some ⟨hb, 0, none⟩), strVal "", strVal "Len"]).run Try.prog w = .ok (.pointer (some ⟨hb, 0, none⟩)) w := fun w => by kernel_rfl
  have ha : ∀ (w : World), (asAddr (.pointer (some ⟨hb, 0, none⟩))).run Try.prog w = .ok ⟨hb, 0, none⟩ w := fun w => by kernel_rfl
  have hg : ∀ (w : World), (Place.get 82 (.val (.pointer (some ⟨hb, 0, none⟩)))).run Try.prog w = .ok (.pointer (some ⟨hb, 0, none⟩)) w := fun w => by kernel_rfl
  have hr : (receiverAt 82 (.val (.pointer (some ⟨hb, 0, none⟩))) false (some "Len")).run Try.prog w = .ok (.slice p n c) w := by
    unfold receiverAt
    simp [Sem.run_bind, hg, hw, ha, hl]
  have hmm : (method (Try.prog.types.size + Made.depth) 82 (.pointer (some ⟨hb, 0, none⟩)) "Len").run Try.prog w = .ok (77, .slice p n c) w := by
    have e : (method (Try.prog.types.size + Made.depth) 82 (.pointer (some ⟨hb, 0, none⟩)) "Len").run Try.prog w = (do let x ← receiverAt 82 (.val (.pointer (some ⟨hb, 0, none⟩))) false (some "Len"); pure ((77 : FuncId), x) : Sem (FuncId × Value)).run Try.prog w := by kernel_rfl
    rw [e]
    simp [hr]
  have e2 : (callMethod (.iface 82 (.pointer (some ⟨hb, 0, none⟩))) "Len" #[]).run Try.prog w = (do let y ← method (Try.prog.types.size + Made.depth) 82 (.pointer (some ⟨hb, 0, none⟩)) "Len"; callFunc y.1 (#[y.2] ++ #[]) : Sem Next).run Try.prog w := by kernel_rfl
  rw [e2, Sem.run_bind, hmm]
  simp [hc]

theorem meth_Less {hb : Nat} {w : World} {p : Option Addr} {n c : Nat} (h : w.cell? ⟨hb, 0, none⟩ = some (.slice p n c)) (i j : Value) : (callMethod (.iface 82 (.pointer (some ⟨hb, 0, none⟩))) "Less" #[i, j]).run Try.prog w = .ok (.enter 78 #[.slice p n c, i, j]) w := by
  have hl : (loadVar 84 ⟨hb, 0, none⟩).run Try.prog w = .ok (.slice p n c) w := by go_simp
  have hc : ∀ (a : Array Value) (w : World), (callFunc 78 a).run Try.prog w = .ok (.enter 78 a) w := fun a w => by kernel_rfl
  have hw : ∀ (w : World), (Builtin.ssaWrapNilChk_ #[82] 82 #[.pointer (some ⟨hb, 0, none⟩), strVal "", strVal "Less"]).run Try.prog w = .ok (.pointer (some ⟨hb, 0, none⟩)) w := fun w => by kernel_rfl
  have ha : ∀ (w : World), (asAddr (.pointer (some ⟨hb, 0, none⟩))).run Try.prog w = .ok ⟨hb, 0, none⟩ w := fun w => by kernel_rfl
  have hg : ∀ (w : World), (Place.get 82 (.val (.pointer (some ⟨hb, 0, none⟩)))).run Try.prog w = .ok (.pointer (some ⟨hb, 0, none⟩)) w := fun w => by kernel_rfl
  have hr : (receiverAt 82 (.val (.pointer (some ⟨hb, 0, none⟩))) false (some "Less")).run Try.prog w = .ok (.slice p n c) w := by
    unfold receiverAt
    simp [Sem.run_bind, hg, hw, ha, hl]
  have hmm : (method (Try.prog.types.size + Made.depth) 82 (.pointer (some ⟨hb, 0, none⟩)) "Less").run Try.prog w = .ok (78, .slice p n c) w := by
    have e : (method (Try.prog.types.size + Made.depth) 82 (.pointer (some ⟨hb, 0, none⟩)) "Less").run Try.prog w = (do let x ← receiverAt 82 (.val (.pointer (some ⟨hb, 0, none⟩))) false (some "Less"); pure ((78 : FuncId), x) : Sem (FuncId × Value)).run Try.prog w := by kernel_rfl
    rw [e]
    simp [hr]
  have e2 : (callMethod (.iface 82 (.pointer (some ⟨hb, 0, none⟩))) "Less" #[i, j]).run Try.prog w = (do let y ← method (Try.prog.types.size + Made.depth) 82 (.pointer (some ⟨hb, 0, none⟩)) "Less"; callFunc y.1 (#[y.2] ++ #[i, j]) : Sem Next).run Try.prog w := by kernel_rfl
  rw [e2, Sem.run_bind, hmm]
  simp [hc]

theorem meth_Swap {hb : Nat} {w : World} {p : Option Addr} {n c : Nat} (h : w.cell? ⟨hb, 0, none⟩ = some (.slice p n c)) (i j : Value) : (callMethod (.iface 82 (.pointer (some ⟨hb, 0, none⟩))) "Swap" #[i, j]).run Try.prog w = .ok (.enter 81 #[.slice p n c, i, j]) w := by
  have hl : (loadVar 84 ⟨hb, 0, none⟩).run Try.prog w = .ok (.slice p n c) w := by go_simp
  have hc : ∀ (a : Array Value) (w : World), (callFunc 81 a).run Try.prog w = .ok (.enter 81 a) w := fun a w => by kernel_rfl
  have hw : ∀ (w : World), (Builtin.ssaWrapNilChk_ #[82] 82 #[.pointer (some ⟨hb, 0, none⟩), strVal "", strVal "Swap"]).run Try.prog w = .ok (.pointer (some ⟨hb, 0, none⟩)) w := fun w => by kernel_rfl
  have ha : ∀ (w : World), (asAddr (.pointer (some ⟨hb, 0, none⟩))).run Try.prog w = .ok ⟨hb, 0, none⟩ w := fun w => by kernel_rfl
  have hg : ∀ (w : World), (Place.get 82 (.val (.pointer (some ⟨hb, 0, none⟩)))).run Try.prog w = .ok (.pointer (some ⟨hb, 0, none⟩)) w := fun w => by kernel_rfl
  have hr : (receiverAt 82 (.val (.pointer (some ⟨hb, 0, none⟩))) false (some "Swap")).run Try.prog w = .ok (.slice p n c) w := by
    unfold receiverAt
    simp [Sem.run_bind, hg, hw, ha, hl]
  have hmm : (method (Try.prog.types.size + Made.depth) 82 (.pointer (some ⟨hb, 0, none⟩)) "Swap").run Try.prog w = .ok (81, .slice p n c) w := by
    have e : (method (Try.prog.types.size + Made.depth) 82 (.pointer (some ⟨hb, 0, none⟩)) "Swap").run Try.prog w = (do let x ← receiverAt 82 (.val (.pointer (some ⟨hb, 0, none⟩))) false (some "Swap"); pure ((81 : FuncId), x) : Sem (FuncId × Value)).run Try.prog w := by kernel_rfl
    rw [e]
    simp [hr]
  have e2 : (callMethod (.iface 82 (.pointer (some ⟨hb, 0, none⟩))) "Swap" #[i, j]).run Try.prog w = (do let y ← method (Try.prog.types.size + Made.depth) 82 (.pointer (some ⟨hb, 0, none⟩)) "Swap"; callFunc y.1 (#[y.2] ++ #[i, j]) : Sem Next).run Try.prog w := by kernel_rfl
  rw [e2, Sem.run_bind, hmm]
  simp [hc]

end Go.Proofs.Ytahdaccmokjgpaa

/-
  WALK: Code of a vector, for every vector; the document's Code. Printed by coder.py.
-/
import Derived.Test.YtcdlmjbjpeokfaaDoorCodeW
namespace Go.Proofs.YtcdlmjbjpeokfaaDoor
open Go.RowKit Go.Shelf
set_option linter.unusedVariables false

theorem Code_calls (Bs h : Nat) (dm sd : Int) (p : Option Addr) (cap : Nat) (zs : List (Int × Int)) (hh : h ≤ 512) (hh1 : 1 ≤ h) (hh4 : h % 4 = 0) (hd : 1 ≤ dm ∧ dm ≤ 1024) (w : World) (hz : PL w p zs) (hs : Sg w 48 Bs ((2 * h : Nat) : Int) dm sd) :
    Calls Tryd.prog 14 #[.pointer (some ⟨Bs, 0, none⟩), .slice p zs.length cap] w fun e w' => e = .returned (.tuple #[.string (sgC dm sd h zs), .int .i64 (sgE dm zs)]) ∧ Below w.heap.size w w' := by
  unfold sgC
  rcases sgE_cases dm zs with ⟨h1, h2⟩ | ⟨h1, h2, h3⟩ | ⟨h1, h2, h3⟩
  · rw [h2, if_neg (by decide)]
    exact Code_no Bs 190 (by decide) _ w (fun W hW => by subst hW; exact sums_dims Bs _ dm sd p zs.length cap h1 W hs)
  · rw [h3, if_pos rfl]
    subst h1
    exact Code_ok Bs h sd p cap zs hh hh1 hh4 (by omega) (by omega) h2 w hz hs
  · rw [h3, if_neg (by decide)]
    subst h1
    exact Code_no Bs 191 (by decide) _ w (fun W hW => by subst hW; exact sums_part Bs _ sd p cap zs (by omega) h2 W hz hs)

end Go.Proofs.YtcdlmjbjpeokfaaDoor

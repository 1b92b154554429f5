/-
  No cell of these rows narrows 'for every input' (looked for: loops, veiled, ifaces, maps, wideKeys, modest, calm, conditions, laid).
  DERIVED. THE GIVEN ROWS OF THIS SEAT. 5 by the template 'for every input the law returns true; each argument reads behind the call as it read before'; 0 by the template 'total and deterministic' (their statements: YtldcfgifimdmmaaTotals.lean).
  GIVEN WITH THE SEED: the statements are not yours to turn. If you find one false, say at which input.
  Laid BY PROGRAM, IN A SANDBOX (cutbox-rows.mjs): the forced cells as the released guide's own fill.sh prints them over the translation dabf57da28b0ac6e… (all of the seat's roots in one cut). By AI agents, Wed Nov 11 2026. No macro, syntax, notation, axiom, sorry.
-/
import Derived.Test.YtldcfgifimdmmaaChecked
import GoSem.Claim
import GoSem.ClaimJoined
import GoSem.ClaimMapViews
import Derived.JoinedTies
import Derived.KernelRfl
namespace Go.Proofs.Ytldcfgifimdmmaa
/- THE CELL 'sum', in the pinned program and in every row, IS THE sha256 OF THE DUMP (.gsa) THAT YtldcfgifimdmmaaProg.lean LOADS. Nothing in Lean hashes anything: it is a label: what it is worth is what the hold of that sum in a sandbox is worth. -/
noncomputable def Try.pinned : Pinned := { name := "ytldcfgifimdmmaa", sum := "dabf57da28b0ac6e05f89eb97655cc1d7d92280efab098db0929a9d7c3df7cff", checked := Try.checked }
namespace Rows
def none {H : Type} : Left H := { results := [], args := [] }

/-- 'kindredlaw1.BitsNames': WHATEVER THE INPUT: true; the input reads as it did. -/
def bitsNamesSpec : ChangeSpec := { name := "bitsNames", fn := fun _ => fun
  | [] => { results := [.lit (.bool true)], args := [] }
  | _ => none }
def bitsNamesRow : OpenClaim := { program := "ytldcfgifimdmmaa", sum := "dabf57da28b0ac6e05f89eb97655cc1d7d92280efab098db0929a9d7c3df7cff", func := "kindred/kindredlaw1.BitsNames", spec := "bitsNames", apart := false }
def BitsNamesSaid : Prop := bitsNamesRow.holds Try.pinned (OpenSpec.ofChange bitsNamesSpec)

/-- ITS FALSE NEIGHBOUR: 'it returns false'. Refute it at one input. -/
def bitsNamesWrong : ChangeSpec := { name := "bitsNames", fn := fun _ => fun
  | [] => { results := [.lit (.bool false)], args := [] }
  | _ => none }
def BitsNamesWrongFalsely : Prop := bitsNamesRow.holds Try.pinned (OpenSpec.ofChange bitsNamesWrong)

/-- 'kindredlaw1.BitsSlices': WHATEVER THE INPUT: true; the input reads as it did. -/
def bitsSlicesSpec : ChangeSpec := { name := "bitsSlices", fn := fun _ => fun
  | [d1, d2, d3, d4] => { results := [.lit (.bool true)], args := [d1, d2, d3, d4] }
  | _ => none }
def bitsSlicesRow : OpenClaim := { program := "ytldcfgifimdmmaa", sum := "dabf57da28b0ac6e05f89eb97655cc1d7d92280efab098db0929a9d7c3df7cff", func := "kindred/kindredlaw1.BitsSlices", spec := "bitsSlices", unfollowed := true, recurses := true, apart := false }
def BitsSlicesSaid : Prop := bitsSlicesRow.holds Try.pinned (OpenSpec.ofChange bitsSlicesSpec)

/-- ITS FALSE NEIGHBOUR: 'it returns false'. Refute it at one input. -/
def bitsSlicesWrong : ChangeSpec := { name := "bitsSlices", fn := fun _ => fun
  | [d1, d2, d3, d4] => { results := [.lit (.bool false)], args := [d1, d2, d3, d4] }
  | _ => none }
def BitsSlicesWrongFalsely : Prop := bitsSlicesRow.holds Try.pinned (OpenSpec.ofChange bitsSlicesWrong)

/-- 'kindredlaw1.BitsOne': WHATEVER THE INPUT: true; the input reads as it did. -/
def bitsOneSpec : ChangeSpec := { name := "bitsOne", fn := fun _ => fun
  | [d1, d2, d3, d4] => { results := [.lit (.bool true)], args := [d1, d2, d3, d4] }
  | _ => none }
def bitsOneRow : OpenClaim := { program := "ytldcfgifimdmmaa", sum := "dabf57da28b0ac6e05f89eb97655cc1d7d92280efab098db0929a9d7c3df7cff", func := "kindred/kindredlaw1.BitsOne", spec := "bitsOne", unfollowed := true, recurses := true, apart := false }
def BitsOneSaid : Prop := bitsOneRow.holds Try.pinned (OpenSpec.ofChange bitsOneSpec)

/-- ITS FALSE NEIGHBOUR: 'it returns false'. Refute it at one input. -/
def bitsOneWrong : ChangeSpec := { name := "bitsOne", fn := fun _ => fun
  | [d1, d2, d3, d4] => { results := [.lit (.bool false)], args := [d1, d2, d3, d4] }
  | _ => none }
def BitsOneWrongFalsely : Prop := bitsOneRow.holds Try.pinned (OpenSpec.ofChange bitsOneWrong)

/-- 'kindredlaw1.BitsChunks': WHATEVER THE INPUT: true; the input reads as it did. -/
def bitsChunksSpec : ChangeSpec := { name := "bitsChunks", fn := fun _ => fun
  | [d1, d2, d3, d4] => { results := [.lit (.bool true)], args := [d1, d2, d3, d4] }
  | _ => none }
def bitsChunksRow : OpenClaim := { program := "ytldcfgifimdmmaa", sum := "dabf57da28b0ac6e05f89eb97655cc1d7d92280efab098db0929a9d7c3df7cff", func := "kindred/kindredlaw1.BitsChunks", spec := "bitsChunks", unfollowed := true, recurses := true, apart := false }
def BitsChunksSaid : Prop := bitsChunksRow.holds Try.pinned (OpenSpec.ofChange bitsChunksSpec)

/-- ITS FALSE NEIGHBOUR: 'it returns false'. Refute it at one input. -/
def bitsChunksWrong : ChangeSpec := { name := "bitsChunks", fn := fun _ => fun
  | [d1, d2, d3, d4] => { results := [.lit (.bool false)], args := [d1, d2, d3, d4] }
  | _ => none }
def BitsChunksWrongFalsely : Prop := bitsChunksRow.holds Try.pinned (OpenSpec.ofChange bitsChunksWrong)

/-- 'kindredlaw1.BitsBack': WHATEVER THE INPUT: true; the input reads as it did. -/
def bitsBackSpec : ChangeSpec := { name := "bitsBack", fn := fun _ => fun
  | [d1, d2, d3] => { results := [.lit (.bool true)], args := [d1, d2, d3] }
  | _ => none }
def bitsBackRow : OpenClaim := { program := "ytldcfgifimdmmaa", sum := "dabf57da28b0ac6e05f89eb97655cc1d7d92280efab098db0929a9d7c3df7cff", func := "kindred/kindredlaw1.BitsBack", spec := "bitsBack", unfollowed := true, recurses := true, apart := false }
def BitsBackSaid : Prop := bitsBackRow.holds Try.pinned (OpenSpec.ofChange bitsBackSpec)

/-- ITS FALSE NEIGHBOUR: 'it returns false'. Refute it at one input. -/
def bitsBackWrong : ChangeSpec := { name := "bitsBack", fn := fun _ => fun
  | [d1, d2, d3] => { results := [.lit (.bool false)], args := [d1, d2, d3] }
  | _ => none }
def BitsBackWrongFalsely : Prop := bitsBackRow.holds Try.pinned (OpenSpec.ofChange bitsBackWrong)

/- THE SECOND FORM. 'bulk': how many values and letters a reading holds, each counted each time it is reached (what is shared counts as often as it is met; a slice's spare places count too). A statement '..UptoSaid' is the law's where the arguments, and the package variables that the reading takes, are together of bulk at most 1048576: NARROWER than '..Said'. Prove '..Said' where nothing that the law and all that it calls make is longer than what came in: it says more and counts as full. Else prove '..UptoSaid'. A law counts once. -/
mutual
def uptoBulk {H : Type} : DataW H → Nat
  | .lit (.string bytes) => bytes.length + 1
  | .lit _ => 1
  | .nil => 1
  | .ptr d => uptoBulk d + 1
  | .slice elems spare => uptoBulkAll elems + uptoBulkAll spare + 1
  | .agg parts => uptoBulkAll parts + 1
  | .iface _ d => uptoBulk d + 1
  | .map entries => uptoBulkEntries entries + 1
  | .held _ => 1
def uptoBulkAll {H : Type} : List (DataW H) → Nat
  | [] => 0
  | d :: r => uptoBulk d + uptoBulkAll r
def uptoBulkEntries {H : Type} : List (Lit × DataW H) → Nat
  | [] => 0
  | x :: r => uptoBulkEntry x + uptoBulkEntries r
def uptoBulkEntry {H : Type} : Lit × DataW H → Nat
  | (.string bytes, d) => bytes.length + uptoBulk d + 1
  | (_, d) => uptoBulk d + 1
 end
def uptoSmall : (H : Type) → List (DataW H) → Bool := fun _ ds => decide (uptoBulkAll ds ≤ 1048576)
def OpenSpec.upto (s : _root_.Go.ChangeSpec) : _root_.Go.OpenSpec := { _root_.Go.OpenSpec.ofChange s with cond := some uptoSmall }

/-- 'kindredlaw1.BitsNames', WHERE WHAT IT READS IS OF BULK AT MOST 1048576: true; the input reads as it did. -/
def bitsNamesUptoRow : OpenClaim := { program := "ytldcfgifimdmmaa", sum := "dabf57da28b0ac6e05f89eb97655cc1d7d92280efab098db0929a9d7c3df7cff", func := "kindred/kindredlaw1.BitsNames", spec := "bitsNames", apart := false, narrowed := true }
def BitsNamesUptoSaid : Prop := bitsNamesUptoRow.holds Try.pinned (OpenSpec.upto bitsNamesSpec)

/-- 'kindredlaw1.BitsSlices', WHERE WHAT IT READS IS OF BULK AT MOST 1048576: true; the input reads as it did. -/
def bitsSlicesUptoRow : OpenClaim := { program := "ytldcfgifimdmmaa", sum := "dabf57da28b0ac6e05f89eb97655cc1d7d92280efab098db0929a9d7c3df7cff", func := "kindred/kindredlaw1.BitsSlices", spec := "bitsSlices", unfollowed := true, recurses := true, apart := false, narrowed := true }
def BitsSlicesUptoSaid : Prop := bitsSlicesUptoRow.holds Try.pinned (OpenSpec.upto bitsSlicesSpec)

/-- 'kindredlaw1.BitsOne', WHERE WHAT IT READS IS OF BULK AT MOST 1048576: true; the input reads as it did. -/
def bitsOneUptoRow : OpenClaim := { program := "ytldcfgifimdmmaa", sum := "dabf57da28b0ac6e05f89eb97655cc1d7d92280efab098db0929a9d7c3df7cff", func := "kindred/kindredlaw1.BitsOne", spec := "bitsOne", unfollowed := true, recurses := true, apart := false, narrowed := true }
def BitsOneUptoSaid : Prop := bitsOneUptoRow.holds Try.pinned (OpenSpec.upto bitsOneSpec)

/-- 'kindredlaw1.BitsChunks', WHERE WHAT IT READS IS OF BULK AT MOST 1048576: true; the input reads as it did. -/
def bitsChunksUptoRow : OpenClaim := { program := "ytldcfgifimdmmaa", sum := "dabf57da28b0ac6e05f89eb97655cc1d7d92280efab098db0929a9d7c3df7cff", func := "kindred/kindredlaw1.BitsChunks", spec := "bitsChunks", unfollowed := true, recurses := true, apart := false, narrowed := true }
def BitsChunksUptoSaid : Prop := bitsChunksUptoRow.holds Try.pinned (OpenSpec.upto bitsChunksSpec)

/-- 'kindredlaw1.BitsBack', WHERE WHAT IT READS IS OF BULK AT MOST 1048576: true; the input reads as it did. -/
def bitsBackUptoRow : OpenClaim := { program := "ytldcfgifimdmmaa", sum := "dabf57da28b0ac6e05f89eb97655cc1d7d92280efab098db0929a9d7c3df7cff", func := "kindred/kindredlaw1.BitsBack", spec := "bitsBack", unfollowed := true, recurses := true, apart := false, narrowed := true }
def BitsBackUptoSaid : Prop := bitsBackUptoRow.holds Try.pinned (OpenSpec.upto bitsBackSpec)

end Rows
end Go.Proofs.Ytldcfgifimdmmaa

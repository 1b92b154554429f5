/-
  No cell of these rows narrows 'for every input' (looked for: loops, veiled, ifaces, maps, wideKeys, modest, calm, conditions, laid).
  DERIVED. THE GIVEN ROWS OF THIS SEAT. 5 by the template 'for every input the law returns true; each argument reads behind the call as it read before'; 0 by the template 'total and deterministic' (their statements: YtjdghijphncldaaTotals.lean).
  GIVEN WITH THE SEED: the statements are not yours to turn. If you find one false, say at which input.
  Laid BY PROGRAM, IN A SANDBOX (cutbox-rows.mjs): the forced cells as the released guide's own fill.sh prints them over the translation e735f7873302cca3… (all of the seat's roots in one cut). By AI agents, Wed Nov 11 2026. No macro, syntax, notation, axiom, sorry.
-/
import Derived.Test.YtjdghijphncldaaChecked
import GoSem.Claim
import GoSem.ClaimJoined
import GoSem.ClaimMapViews
import Derived.JoinedTies
import Derived.KernelRfl
namespace Go.Proofs.Ytjdghijphncldaa
/- THE CELL 'sum', in the pinned program and in every row, IS THE sha256 OF THE DUMP (.gsa) THAT YtjdghijphncldaaProg.lean LOADS. Nothing in Lean hashes anything: it is a label: what it is worth is what the hold of that sum in a sandbox is worth. -/
noncomputable def Try.pinned : Pinned := { name := "ytjdghijphncldaa", sum := "e735f7873302cca3a6b7235d75ece34d1b77d9e953f015b103b136fc13d904d8", checked := Try.checked }
namespace Rows
def none {H : Type} : Left H := { results := [], args := [] }

/-- 'kindredlaw9.DeltaNames': WHATEVER THE INPUT: true; the input reads as it did. -/
def deltaNamesSpec : ChangeSpec := { name := "deltaNames", fn := fun _ => fun
  | [] => { results := [.lit (.bool true)], args := [] }
  | _ => none }
def deltaNamesRow : OpenClaim := { program := "ytjdghijphncldaa", sum := "e735f7873302cca3a6b7235d75ece34d1b77d9e953f015b103b136fc13d904d8", func := "kindred/kindredlaw9.DeltaNames", spec := "deltaNames", plainKeys := false, apart := false }
def DeltaNamesSaid : Prop := deltaNamesRow.holds Try.pinned (OpenSpec.ofChange deltaNamesSpec)

/-- ITS FALSE NEIGHBOUR: 'it returns false'. Refute it at one input. -/
def deltaNamesWrong : ChangeSpec := { name := "deltaNames", fn := fun _ => fun
  | [] => { results := [.lit (.bool false)], args := [] }
  | _ => none }
def DeltaNamesWrongFalsely : Prop := deltaNamesRow.holds Try.pinned (OpenSpec.ofChange deltaNamesWrong)

/-- 'kindredlaw9.DeltaExact': WHATEVER THE INPUT: true; the input reads as it did. -/
def deltaExactSpec : ChangeSpec := { name := "deltaExact", fn := fun _ => fun
  | [d1, d2, d3] => { results := [.lit (.bool true)], args := [d1, d2, d3] }
  | _ => none }
def deltaExactRow : OpenClaim := { program := "ytjdghijphncldaa", sum := "e735f7873302cca3a6b7235d75ece34d1b77d9e953f015b103b136fc13d904d8", func := "kindred/kindredlaw9.DeltaExact", spec := "deltaExact", inPlace := ["internal/bytealg.abigen_runtime_cmpstring"], unfollowed := true, recurses := true, plainKeys := false, apart := false }
def DeltaExactSaid : Prop := deltaExactRow.holds Try.pinned (OpenSpec.ofChange deltaExactSpec)

/-- ITS FALSE NEIGHBOUR: 'it returns false'. Refute it at one input. -/
def deltaExactWrong : ChangeSpec := { name := "deltaExact", fn := fun _ => fun
  | [d1, d2, d3] => { results := [.lit (.bool false)], args := [d1, d2, d3] }
  | _ => none }
def DeltaExactWrongFalsely : Prop := deltaExactRow.holds Try.pinned (OpenSpec.ofChange deltaExactWrong)

/-- 'kindredlaw9.DeltaTwo': WHATEVER THE INPUT: true; the input reads as it did. -/
def deltaTwoSpec : ChangeSpec := { name := "deltaTwo", fn := fun _ => fun
  | [d1, d2, d3, d4, d5, d6] => { results := [.lit (.bool true)], args := [d1, d2, d3, d4, d5, d6] }
  | _ => none }
def deltaTwoRow : OpenClaim := { program := "ytjdghijphncldaa", sum := "e735f7873302cca3a6b7235d75ece34d1b77d9e953f015b103b136fc13d904d8", func := "kindred/kindredlaw9.DeltaTwo", spec := "deltaTwo", inPlace := ["internal/bytealg.abigen_runtime_cmpstring"], unfollowed := true, recurses := true, plainKeys := false, apart := false }
def DeltaTwoSaid : Prop := deltaTwoRow.holds Try.pinned (OpenSpec.ofChange deltaTwoSpec)

/-- ITS FALSE NEIGHBOUR: 'it returns false'. Refute it at one input. -/
def deltaTwoWrong : ChangeSpec := { name := "deltaTwo", fn := fun _ => fun
  | [d1, d2, d3, d4, d5, d6] => { results := [.lit (.bool false)], args := [d1, d2, d3, d4, d5, d6] }
  | _ => none }
def DeltaTwoWrongFalsely : Prop := deltaTwoRow.holds Try.pinned (OpenSpec.ofChange deltaTwoWrong)

/-- 'kindredlaw9.DeltaLists': WHATEVER THE INPUT: true; the input reads as it did. -/
def deltaListsSpec : ChangeSpec := { name := "deltaLists", fn := fun _ => fun
  | [d1, d2, d3, d4, d5] => { results := [.lit (.bool true)], args := [d1, d2, d3, d4, d5] }
  | _ => none }
def deltaListsRow : OpenClaim := { program := "ytjdghijphncldaa", sum := "e735f7873302cca3a6b7235d75ece34d1b77d9e953f015b103b136fc13d904d8", func := "kindred/kindredlaw9.DeltaLists", spec := "deltaLists", inPlace := ["internal/bytealg.abigen_runtime_cmpstring"], unfollowed := true, recurses := true, plainKeys := false, apart := false }
def DeltaListsSaid : Prop := deltaListsRow.holds Try.pinned (OpenSpec.ofChange deltaListsSpec)

/-- ITS FALSE NEIGHBOUR: 'it returns false'. Refute it at one input. -/
def deltaListsWrong : ChangeSpec := { name := "deltaLists", fn := fun _ => fun
  | [d1, d2, d3, d4, d5] => { results := [.lit (.bool false)], args := [d1, d2, d3, d4, d5] }
  | _ => none }
def DeltaListsWrongFalsely : Prop := deltaListsRow.holds Try.pinned (OpenSpec.ofChange deltaListsWrong)

/-- 'kindredlaw9.DeltaLast': WHATEVER THE INPUT: true; the input reads as it did. -/
def deltaLastSpec : ChangeSpec := { name := "deltaLast", fn := fun _ => fun
  | [d1, d2, d3] => { results := [.lit (.bool true)], args := [d1, d2, d3] }
  | _ => none }
def deltaLastRow : OpenClaim := { program := "ytjdghijphncldaa", sum := "e735f7873302cca3a6b7235d75ece34d1b77d9e953f015b103b136fc13d904d8", func := "kindred/kindredlaw9.DeltaLast", spec := "deltaLast", inPlace := ["internal/bytealg.abigen_runtime_cmpstring"], unfollowed := true, recurses := true, plainKeys := false, apart := false }
def DeltaLastSaid : Prop := deltaLastRow.holds Try.pinned (OpenSpec.ofChange deltaLastSpec)

/-- ITS FALSE NEIGHBOUR: 'it returns false'. Refute it at one input. -/
def deltaLastWrong : ChangeSpec := { name := "deltaLast", fn := fun _ => fun
  | [d1, d2, d3] => { results := [.lit (.bool false)], args := [d1, d2, d3] }
  | _ => none }
def DeltaLastWrongFalsely : Prop := deltaLastRow.holds Try.pinned (OpenSpec.ofChange deltaLastWrong)

/- THE SECOND FORM. 'bulk': how many values and letters a reading holds, each counted each time it is reached (what is shared counts as often as it is met; a slice's spare places count too). A statement '..UptoSaid' is the law's where the arguments, and the package variables that the reading takes, are together of bulk at most 1048576: NARROWER than '..Said'. Prove '..Said' where nothing that the law and all that it calls make is longer than what came in: it says more and counts as full. Else prove '..UptoSaid'. A law counts once. -/
mutual
def uptoBulk {H : Type} : DataW H → Nat
  | .lit (.string bytes) => bytes.length + 1
  | .lit _ => 1
  | .nil => 1
  | .ptr d => uptoBulk d + 1
  | .slice elems spare => uptoBulkAll elems + uptoBulkAll spare + 1
  | .agg parts => uptoBulkAll parts + 1
  | .iface _ d => uptoBulk d + 1
  | .map entries => uptoBulkEntries entries + 1
  | .held _ => 1
def uptoBulkAll {H : Type} : List (DataW H) → Nat
  | [] => 0
  | d :: r => uptoBulk d + uptoBulkAll r
def uptoBulkEntries {H : Type} : List (Lit × DataW H) → Nat
  | [] => 0
  | x :: r => uptoBulkEntry x + uptoBulkEntries r
def uptoBulkEntry {H : Type} : Lit × DataW H → Nat
  | (.string bytes, d) => bytes.length + uptoBulk d + 1
  | (_, d) => uptoBulk d + 1
 end
def uptoSmall : (H : Type) → List (DataW H) → Bool := fun _ ds => decide (uptoBulkAll ds ≤ 1048576)
def OpenSpec.upto (s : _root_.Go.ChangeSpec) : _root_.Go.OpenSpec := { _root_.Go.OpenSpec.ofChange s with cond := some uptoSmall }

/-- 'kindredlaw9.DeltaNames', WHERE WHAT IT READS IS OF BULK AT MOST 1048576: true; the input reads as it did. -/
def deltaNamesUptoRow : OpenClaim := { program := "ytjdghijphncldaa", sum := "e735f7873302cca3a6b7235d75ece34d1b77d9e953f015b103b136fc13d904d8", func := "kindred/kindredlaw9.DeltaNames", spec := "deltaNames", plainKeys := false, apart := false, narrowed := true }
def DeltaNamesUptoSaid : Prop := deltaNamesUptoRow.holds Try.pinned (OpenSpec.upto deltaNamesSpec)

/-- 'kindredlaw9.DeltaExact', WHERE WHAT IT READS IS OF BULK AT MOST 1048576: true; the input reads as it did. -/
def deltaExactUptoRow : OpenClaim := { program := "ytjdghijphncldaa", sum := "e735f7873302cca3a6b7235d75ece34d1b77d9e953f015b103b136fc13d904d8", func := "kindred/kindredlaw9.DeltaExact", spec := "deltaExact", inPlace := ["internal/bytealg.abigen_runtime_cmpstring"], unfollowed := true, recurses := true, plainKeys := false, apart := false, narrowed := true }
def DeltaExactUptoSaid : Prop := deltaExactUptoRow.holds Try.pinned (OpenSpec.upto deltaExactSpec)

/-- 'kindredlaw9.DeltaTwo', WHERE WHAT IT READS IS OF BULK AT MOST 1048576: true; the input reads as it did. -/
def deltaTwoUptoRow : OpenClaim := { program := "ytjdghijphncldaa", sum := "e735f7873302cca3a6b7235d75ece34d1b77d9e953f015b103b136fc13d904d8", func := "kindred/kindredlaw9.DeltaTwo", spec := "deltaTwo", inPlace := ["internal/bytealg.abigen_runtime_cmpstring"], unfollowed := true, recurses := true, plainKeys := false, apart := false, narrowed := true }
def DeltaTwoUptoSaid : Prop := deltaTwoUptoRow.holds Try.pinned (OpenSpec.upto deltaTwoSpec)

/-- 'kindredlaw9.DeltaLists', WHERE WHAT IT READS IS OF BULK AT MOST 1048576: true; the input reads as it did. -/
def deltaListsUptoRow : OpenClaim := { program := "ytjdghijphncldaa", sum := "e735f7873302cca3a6b7235d75ece34d1b77d9e953f015b103b136fc13d904d8", func := "kindred/kindredlaw9.DeltaLists", spec := "deltaLists", inPlace := ["internal/bytealg.abigen_runtime_cmpstring"], unfollowed := true, recurses := true, plainKeys := false, apart := false, narrowed := true }
def DeltaListsUptoSaid : Prop := deltaListsUptoRow.holds Try.pinned (OpenSpec.upto deltaListsSpec)

/-- 'kindredlaw9.DeltaLast', WHERE WHAT IT READS IS OF BULK AT MOST 1048576: true; the input reads as it did. -/
def deltaLastUptoRow : OpenClaim := { program := "ytjdghijphncldaa", sum := "e735f7873302cca3a6b7235d75ece34d1b77d9e953f015b103b136fc13d904d8", func := "kindred/kindredlaw9.DeltaLast", spec := "deltaLast", inPlace := ["internal/bytealg.abigen_runtime_cmpstring"], unfollowed := true, recurses := true, plainKeys := false, apart := false, narrowed := true }
def DeltaLastUptoSaid : Prop := deltaLastUptoRow.holds Try.pinned (OpenSpec.upto deltaLastSpec)

end Rows
end Go.Proofs.Ytjdghijphncldaa

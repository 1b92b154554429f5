/-
  No cell of these rows narrows 'for every input' (looked for: loops, veiled, ifaces, maps, wideKeys, modest, calm, conditions, laid).
  DERIVED. THE GIVEN ROWS OF THIS SEAT. 4 by the template 'for every input the law returns true; each argument reads behind the call as it read before'; 0 by the template 'total and deterministic' (their statements: YtcdlmjbjpeokfaaTotals.lean).
  GIVEN WITH THE SEED: the statements are not yours to turn. If you find one false, say at which input.
  Laid BY PROGRAM, IN A SANDBOX (cutbox-rows.mjs): the forced cells as the released guide's own fill.sh prints them over the translation 8135457387ea8f5b… (all of the seat's roots in one cut). By AI agents, Wed Nov 11 2026. No macro, syntax, notation, axiom, sorry.
-/
import Derived.Test.YtcdlmjbjpeokfaaChecked
import GoSem.Claim
import GoSem.ClaimJoined
import GoSem.ClaimMapViews
import Derived.JoinedTies
import Derived.KernelRfl
namespace Go.Proofs.Ytcdlmjbjpeokfaa
/- THE CELL 'sum', in the pinned program and in every row, IS THE sha256 OF THE DUMP (.gsa) THAT YtcdlmjbjpeokfaaProg.lean LOADS. Nothing in Lean hashes anything: it is a label: what it is worth is what the hold of that sum in a sandbox is worth. -/
noncomputable def Try.pinned : Pinned := { name := "ytcdlmjbjpeokfaa", sum := "8135457387ea8f5bd19f005435269f1ab3f72360dc469d5168bfbea404da451e", checked := Try.checked }
namespace Rows
def none {H : Type} : Left H := { results := [], args := [] }

/-- 'kindredlaw19.SignNames': WHATEVER THE INPUT: true; the input reads as it did. -/
def signNamesSpec : ChangeSpec := { name := "signNames", fn := fun _ => fun
  | [] => { results := [.lit (.bool true)], args := [] }
  | _ => none }
def signNamesRow : OpenClaim := { program := "ytcdlmjbjpeokfaa", sum := "8135457387ea8f5bd19f005435269f1ab3f72360dc469d5168bfbea404da451e", func := "kindred/kindredlaw19.SignNames", spec := "signNames", apart := false }
def SignNamesSaid : Prop := signNamesRow.holds Try.pinned (OpenSpec.ofChange signNamesSpec)

/-- ITS FALSE NEIGHBOUR: 'it returns false'. Refute it at one input. -/
def signNamesWrong : ChangeSpec := { name := "signNames", fn := fun _ => fun
  | [] => { results := [.lit (.bool false)], args := [] }
  | _ => none }
def SignNamesWrongFalsely : Prop := signNamesRow.holds Try.pinned (OpenSpec.ofChange signNamesWrong)

/-- 'kindredlaw19.SignSums': WHATEVER THE INPUT: true; the input reads as it did. -/
def signSumsSpec : ChangeSpec := { name := "signSums", fn := fun _ => fun
  | [d1, d2, d3, d4] => { results := [.lit (.bool true)], args := [d1, d2, d3, d4] }
  | _ => none }
def signSumsRow : OpenClaim := { program := "ytcdlmjbjpeokfaa", sum := "8135457387ea8f5bd19f005435269f1ab3f72360dc469d5168bfbea404da451e", func := "kindred/kindredlaw19.SignSums", spec := "signSums", unfollowed := true, recurses := true, apart := false }
def SignSumsSaid : Prop := signSumsRow.holds Try.pinned (OpenSpec.ofChange signSumsSpec)

/-- ITS FALSE NEIGHBOUR: 'it returns false'. Refute it at one input. -/
def signSumsWrong : ChangeSpec := { name := "signSums", fn := fun _ => fun
  | [d1, d2, d3, d4] => { results := [.lit (.bool false)], args := [d1, d2, d3, d4] }
  | _ => none }
def SignSumsWrongFalsely : Prop := signSumsRow.holds Try.pinned (OpenSpec.ofChange signSumsWrong)

/-- 'kindredlaw19.SignAdds': WHATEVER THE INPUT: true; the input reads as it did. -/
def signAddsSpec : ChangeSpec := { name := "signAdds", fn := fun _ => fun
  | [d1, d2, d3, d4, d5] => { results := [.lit (.bool true)], args := [d1, d2, d3, d4, d5] }
  | _ => none }
def signAddsRow : OpenClaim := { program := "ytcdlmjbjpeokfaa", sum := "8135457387ea8f5bd19f005435269f1ab3f72360dc469d5168bfbea404da451e", func := "kindred/kindredlaw19.SignAdds", spec := "signAdds", unfollowed := true, recurses := true, apart := false }
def SignAddsSaid : Prop := signAddsRow.holds Try.pinned (OpenSpec.ofChange signAddsSpec)

/-- ITS FALSE NEIGHBOUR: 'it returns false'. Refute it at one input. -/
def signAddsWrong : ChangeSpec := { name := "signAdds", fn := fun _ => fun
  | [d1, d2, d3, d4, d5] => { results := [.lit (.bool false)], args := [d1, d2, d3, d4, d5] }
  | _ => none }
def SignAddsWrongFalsely : Prop := signAddsRow.holds Try.pinned (OpenSpec.ofChange signAddsWrong)

/-- 'kindredlaw19.SignLength': WHATEVER THE INPUT: true; the input reads as it did. -/
def signLengthSpec : ChangeSpec := { name := "signLength", fn := fun _ => fun
  | [d1, d2, d3, d4] => { results := [.lit (.bool true)], args := [d1, d2, d3, d4] }
  | _ => none }
def signLengthRow : OpenClaim := { program := "ytcdlmjbjpeokfaa", sum := "8135457387ea8f5bd19f005435269f1ab3f72360dc469d5168bfbea404da451e", func := "kindred/kindredlaw19.SignLength", spec := "signLength", unfollowed := true, recurses := true, apart := false }
def SignLengthSaid : Prop := signLengthRow.holds Try.pinned (OpenSpec.ofChange signLengthSpec)

/-- ITS FALSE NEIGHBOUR: 'it returns false'. Refute it at one input. -/
def signLengthWrong : ChangeSpec := { name := "signLength", fn := fun _ => fun
  | [d1, d2, d3, d4] => { results := [.lit (.bool false)], args := [d1, d2, d3, d4] }
  | _ => none }
def SignLengthWrongFalsely : Prop := signLengthRow.holds Try.pinned (OpenSpec.ofChange signLengthWrong)

/- THE SECOND FORM. 'bulk': how many values and letters a reading holds, each counted each time it is reached (what is shared counts as often as it is met; a slice's spare places count too). A statement '..UptoSaid' is the law's where the arguments, and the package variables that the reading takes, are together of bulk at most 1048576: NARROWER than '..Said'. Prove '..Said' where nothing that the law and all that it calls make is longer than what came in: it says more and counts as full. Else prove '..UptoSaid'. A law counts once. -/
mutual
def uptoBulk {H : Type} : DataW H → Nat
  | .lit (.string bytes) => bytes.length + 1
  | .lit _ => 1
  | .nil => 1
  | .ptr d => uptoBulk d + 1
  | .slice elems spare => uptoBulkAll elems + uptoBulkAll spare + 1
  | .agg parts => uptoBulkAll parts + 1
  | .iface _ d => uptoBulk d + 1
  | .map entries => uptoBulkEntries entries + 1
  | .held _ => 1
def uptoBulkAll {H : Type} : List (DataW H) → Nat
  | [] => 0
  | d :: r => uptoBulk d + uptoBulkAll r
def uptoBulkEntries {H : Type} : List (Lit × DataW H) → Nat
  | [] => 0
  | x :: r => uptoBulkEntry x + uptoBulkEntries r
def uptoBulkEntry {H : Type} : Lit × DataW H → Nat
  | (.string bytes, d) => bytes.length + uptoBulk d + 1
  | (_, d) => uptoBulk d + 1
 end
def uptoSmall : (H : Type) → List (DataW H) → Bool := fun _ ds => decide (uptoBulkAll ds ≤ 1048576)
def OpenSpec.upto (s : _root_.Go.ChangeSpec) : _root_.Go.OpenSpec := { _root_.Go.OpenSpec.ofChange s with cond := some uptoSmall }

/-- 'kindredlaw19.SignNames', WHERE WHAT IT READS IS OF BULK AT MOST 1048576: true; the input reads as it did. -/
def signNamesUptoRow : OpenClaim := { program := "ytcdlmjbjpeokfaa", sum := "8135457387ea8f5bd19f005435269f1ab3f72360dc469d5168bfbea404da451e", func := "kindred/kindredlaw19.SignNames", spec := "signNames", apart := false, narrowed := true }
def SignNamesUptoSaid : Prop := signNamesUptoRow.holds Try.pinned (OpenSpec.upto signNamesSpec)

/-- 'kindredlaw19.SignSums', WHERE WHAT IT READS IS OF BULK AT MOST 1048576: true; the input reads as it did. -/
def signSumsUptoRow : OpenClaim := { program := "ytcdlmjbjpeokfaa", sum := "8135457387ea8f5bd19f005435269f1ab3f72360dc469d5168bfbea404da451e", func := "kindred/kindredlaw19.SignSums", spec := "signSums", unfollowed := true, recurses := true, apart := false, narrowed := true }
def SignSumsUptoSaid : Prop := signSumsUptoRow.holds Try.pinned (OpenSpec.upto signSumsSpec)

/-- 'kindredlaw19.SignAdds', WHERE WHAT IT READS IS OF BULK AT MOST 1048576: true; the input reads as it did. -/
def signAddsUptoRow : OpenClaim := { program := "ytcdlmjbjpeokfaa", sum := "8135457387ea8f5bd19f005435269f1ab3f72360dc469d5168bfbea404da451e", func := "kindred/kindredlaw19.SignAdds", spec := "signAdds", unfollowed := true, recurses := true, apart := false, narrowed := true }
def SignAddsUptoSaid : Prop := signAddsUptoRow.holds Try.pinned (OpenSpec.upto signAddsSpec)

/-- 'kindredlaw19.SignLength', WHERE WHAT IT READS IS OF BULK AT MOST 1048576: true; the input reads as it did. -/
def signLengthUptoRow : OpenClaim := { program := "ytcdlmjbjpeokfaa", sum := "8135457387ea8f5bd19f005435269f1ab3f72360dc469d5168bfbea404da451e", func := "kindred/kindredlaw19.SignLength", spec := "signLength", unfollowed := true, recurses := true, apart := false, narrowed := true }
def SignLengthUptoSaid : Prop := signLengthUptoRow.holds Try.pinned (OpenSpec.upto signLengthSpec)

end Rows
end Go.Proofs.Ytcdlmjbjpeokfaa

/-
  No cell of these rows narrows 'for every input' (looked for: loops, veiled, ifaces, maps, wideKeys, modest, calm, conditions, laid).
  DERIVED. THE GIVEN ROWS OF THIS SEAT. 4 by the template 'for every input the law returns true; each argument reads behind the call as it read before'; 0 by the template 'total and deterministic' (their statements: YtjojlahppdgagaaTotals.lean).
  GIVEN WITH THE SEED: the statements are not yours to turn. If you find one false, say at which input.
  Laid BY PROGRAM, IN A SANDBOX (cutbox-rows.mjs): the forced cells as the released guide's own fill.sh prints them over the translation c8e68a87f5d9f91f… (all of the seat's roots in one cut). By AI agents, Wed Nov 11 2026. No macro, syntax, notation, axiom, sorry.
-/
import Derived.Test.YtjojlahppdgagaaChecked
import GoSem.Claim
import GoSem.ClaimJoined
import GoSem.ClaimMapViews
import Derived.JoinedTies
import Derived.KernelRfl
namespace Go.Proofs.Ytjojlahppdgagaa
/- THE CELL 'sum', in the pinned program and in every row, IS THE sha256 OF THE DUMP (.gsa) THAT YtjojlahppdgagaaProg.lean LOADS. Nothing in Lean hashes anything: it is a label: what it is worth is what the hold of that sum in a sandbox is worth. -/
noncomputable def Try.pinned : Pinned := { name := "ytjojlahppdgagaa", sum := "c8e68a87f5d9f91fbedbd7ea8c2fe8caa638170108f1994c2625cc322183f0ba", checked := Try.checked }
namespace Rows
def none {H : Type} : Left H := { results := [], args := [] }

/-- 'januslaw10.ExoenvUpcalls': WHATEVER THE INPUT: true; the input reads as it did. -/
def exoenvUpcallsSpec : ChangeSpec := { name := "exoenvUpcalls", fn := fun _ => fun
  | [d1, d2, d3] => { results := [.lit (.bool true)], args := [d1, d2, d3] }
  | _ => none }
def exoenvUpcallsRow : OpenClaim := { program := "ytjojlahppdgagaa", sum := "c8e68a87f5d9f91fbedbd7ea8c2fe8caa638170108f1994c2625cc322183f0ba", func := "janus/januslaw10.ExoenvUpcalls", spec := "exoenvUpcalls", apart := false }
def ExoenvUpcallsSaid : Prop := exoenvUpcallsRow.holds Try.pinned (OpenSpec.ofChange exoenvUpcallsSpec)

/-- ITS FALSE NEIGHBOUR: 'it returns false'. Refute it at one input. -/
def exoenvUpcallsWrong : ChangeSpec := { name := "exoenvUpcalls", fn := fun _ => fun
  | [d1, d2, d3] => { results := [.lit (.bool false)], args := [d1, d2, d3] }
  | _ => none }
def ExoenvUpcallsWrongFalsely : Prop := exoenvUpcallsRow.holds Try.pinned (OpenSpec.ofChange exoenvUpcallsWrong)

/-- 'januslaw10.ExoenvSlices': WHATEVER THE INPUT: true; the input reads as it did. -/
def exoenvSlicesSpec : ChangeSpec := { name := "exoenvSlices", fn := fun _ => fun
  | [d1, d2] => { results := [.lit (.bool true)], args := [d1, d2] }
  | _ => none }
def exoenvSlicesRow : OpenClaim := { program := "ytjojlahppdgagaa", sum := "c8e68a87f5d9f91fbedbd7ea8c2fe8caa638170108f1994c2625cc322183f0ba", func := "janus/januslaw10.ExoenvSlices", spec := "exoenvSlices", apart := false }
def ExoenvSlicesSaid : Prop := exoenvSlicesRow.holds Try.pinned (OpenSpec.ofChange exoenvSlicesSpec)

/-- ITS FALSE NEIGHBOUR: 'it returns false'. Refute it at one input. -/
def exoenvSlicesWrong : ChangeSpec := { name := "exoenvSlices", fn := fun _ => fun
  | [d1, d2] => { results := [.lit (.bool false)], args := [d1, d2] }
  | _ => none }
def ExoenvSlicesWrongFalsely : Prop := exoenvSlicesRow.holds Try.pinned (OpenSpec.ofChange exoenvSlicesWrong)

/-- 'januslaw10.ExoenvPlays': WHATEVER THE INPUT: true; the input reads as it did. -/
def exoenvPlaysSpec : ChangeSpec := { name := "exoenvPlays", fn := fun _ => fun
  | [d1, d2] => { results := [.lit (.bool true)], args := [d1, d2] }
  | _ => none }
def exoenvPlaysRow : OpenClaim := { program := "ytjojlahppdgagaa", sum := "c8e68a87f5d9f91fbedbd7ea8c2fe8caa638170108f1994c2625cc322183f0ba", func := "janus/januslaw10.ExoenvPlays", spec := "exoenvPlays", apart := false }
def ExoenvPlaysSaid : Prop := exoenvPlaysRow.holds Try.pinned (OpenSpec.ofChange exoenvPlaysSpec)

/-- ITS FALSE NEIGHBOUR: 'it returns false'. Refute it at one input. -/
def exoenvPlaysWrong : ChangeSpec := { name := "exoenvPlays", fn := fun _ => fun
  | [d1, d2] => { results := [.lit (.bool false)], args := [d1, d2] }
  | _ => none }
def ExoenvPlaysWrongFalsely : Prop := exoenvPlaysRow.holds Try.pinned (OpenSpec.ofChange exoenvPlaysWrong)

/-- 'januslaw10.ExoenvNone': WHATEVER THE INPUT: true; the input reads as it did. -/
def exoenvNoneSpec : ChangeSpec := { name := "exoenvNone", fn := fun _ => fun
  | [d] => { results := [.lit (.bool true)], args := [d] }
  | _ => none }
def exoenvNoneRow : OpenClaim := { program := "ytjojlahppdgagaa", sum := "c8e68a87f5d9f91fbedbd7ea8c2fe8caa638170108f1994c2625cc322183f0ba", func := "janus/januslaw10.ExoenvNone", spec := "exoenvNone", apart := false }
def ExoenvNoneSaid : Prop := exoenvNoneRow.holds Try.pinned (OpenSpec.ofChange exoenvNoneSpec)

/-- ITS FALSE NEIGHBOUR: 'it returns false'. Refute it at one input. -/
def exoenvNoneWrong : ChangeSpec := { name := "exoenvNone", fn := fun _ => fun
  | [d] => { results := [.lit (.bool false)], args := [d] }
  | _ => none }
def ExoenvNoneWrongFalsely : Prop := exoenvNoneRow.holds Try.pinned (OpenSpec.ofChange exoenvNoneWrong)

/- THE SECOND FORM. 'bulk': how many values and letters a reading holds, each counted each time it is reached (what is shared counts as often as it is met; a slice's spare places count too). A statement '..UptoSaid' is the law's where the arguments, and the package variables that the reading takes, are together of bulk at most 1048576: NARROWER than '..Said'. Prove '..Said' where nothing that the law and all that it calls make is longer than what came in: it says more and counts as full. Else prove '..UptoSaid'. A law counts once. -/
mutual
def uptoBulk {H : Type} : DataW H → Nat
  | .lit (.string bytes) => bytes.length + 1
  | .lit _ => 1
  | .nil => 1
  | .ptr d => uptoBulk d + 1
  | .slice elems spare => uptoBulkAll elems + uptoBulkAll spare + 1
  | .agg parts => uptoBulkAll parts + 1
  | .iface _ d => uptoBulk d + 1
  | .map entries => uptoBulkEntries entries + 1
  | .held _ => 1
def uptoBulkAll {H : Type} : List (DataW H) → Nat
  | [] => 0
  | d :: r => uptoBulk d + uptoBulkAll r
def uptoBulkEntries {H : Type} : List (Lit × DataW H) → Nat
  | [] => 0
  | x :: r => uptoBulkEntry x + uptoBulkEntries r
def uptoBulkEntry {H : Type} : Lit × DataW H → Nat
  | (.string bytes, d) => bytes.length + uptoBulk d + 1
  | (_, d) => uptoBulk d + 1
 end
def uptoSmall : (H : Type) → List (DataW H) → Bool := fun _ ds => decide (uptoBulkAll ds ≤ 1048576)
def OpenSpec.upto (s : _root_.Go.ChangeSpec) : _root_.Go.OpenSpec := { _root_.Go.OpenSpec.ofChange s with cond := some uptoSmall }

/-- 'januslaw10.ExoenvUpcalls', WHERE WHAT IT READS IS OF BULK AT MOST 1048576: true; the input reads as it did. -/
def exoenvUpcallsUptoRow : OpenClaim := { program := "ytjojlahppdgagaa", sum := "c8e68a87f5d9f91fbedbd7ea8c2fe8caa638170108f1994c2625cc322183f0ba", func := "janus/januslaw10.ExoenvUpcalls", spec := "exoenvUpcalls", apart := false, narrowed := true }
def ExoenvUpcallsUptoSaid : Prop := exoenvUpcallsUptoRow.holds Try.pinned (OpenSpec.upto exoenvUpcallsSpec)

/-- 'januslaw10.ExoenvSlices', WHERE WHAT IT READS IS OF BULK AT MOST 1048576: true; the input reads as it did. -/
def exoenvSlicesUptoRow : OpenClaim := { program := "ytjojlahppdgagaa", sum := "c8e68a87f5d9f91fbedbd7ea8c2fe8caa638170108f1994c2625cc322183f0ba", func := "janus/januslaw10.ExoenvSlices", spec := "exoenvSlices", apart := false, narrowed := true }
def ExoenvSlicesUptoSaid : Prop := exoenvSlicesUptoRow.holds Try.pinned (OpenSpec.upto exoenvSlicesSpec)

/-- 'januslaw10.ExoenvPlays', WHERE WHAT IT READS IS OF BULK AT MOST 1048576: true; the input reads as it did. -/
def exoenvPlaysUptoRow : OpenClaim := { program := "ytjojlahppdgagaa", sum := "c8e68a87f5d9f91fbedbd7ea8c2fe8caa638170108f1994c2625cc322183f0ba", func := "janus/januslaw10.ExoenvPlays", spec := "exoenvPlays", apart := false, narrowed := true }
def ExoenvPlaysUptoSaid : Prop := exoenvPlaysUptoRow.holds Try.pinned (OpenSpec.upto exoenvPlaysSpec)

/-- 'januslaw10.ExoenvNone', WHERE WHAT IT READS IS OF BULK AT MOST 1048576: true; the input reads as it did. -/
def exoenvNoneUptoRow : OpenClaim := { program := "ytjojlahppdgagaa", sum := "c8e68a87f5d9f91fbedbd7ea8c2fe8caa638170108f1994c2625cc322183f0ba", func := "janus/januslaw10.ExoenvNone", spec := "exoenvNone", apart := false, narrowed := true }
def ExoenvNoneUptoSaid : Prop := exoenvNoneUptoRow.holds Try.pinned (OpenSpec.upto exoenvNoneSpec)

end Rows
end Go.Proofs.Ytjojlahppdgagaa

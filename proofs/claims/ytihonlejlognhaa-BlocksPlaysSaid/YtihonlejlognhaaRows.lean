/-
  No cell of these rows narrows 'for every input' (looked for: loops, veiled, ifaces, maps, wideKeys, modest, calm, conditions, laid).
  DERIVED. THE GIVEN ROWS OF THIS SEAT. 4 by the template 'for every input the law returns true; each argument reads behind the call as it read before'; 0 by the template 'total and deterministic' (their statements: YtihonlejlognhaaTotals.lean).
  GIVEN WITH THE SEED: the statements are not yours to turn. If you find one false, say at which input.
  Laid BY PROGRAM, IN A SANDBOX (cutbox-rows.mjs): the forced cells as the released guide's own fill.sh prints them over the translation 6751d42796e73810… (all of the seat's roots in one cut). By AI agents, Wed Nov 11 2026. No macro, syntax, notation, axiom, sorry.
-/
import Derived.Test.YtihonlejlognhaaChecked
import GoSem.Claim
import GoSem.ClaimJoined
import GoSem.ClaimMapViews
import Derived.JoinedTies
import Derived.KernelRfl
namespace Go.Proofs.Ytihonlejlognhaa
/- THE CELL 'sum', in the pinned program and in every row, IS THE sha256 OF THE DUMP (.gsa) THAT YtihonlejlognhaaProg.lean LOADS. Nothing in Lean hashes anything: it is a label: what it is worth is what the hold of that sum in a sandbox is worth. -/
noncomputable def Try.pinned : Pinned := { name := "ytihonlejlognhaa", sum := "6751d42796e73810f442ba24cb897084d5d848ca939eed07282ba19ab5ed8061", checked := Try.checked }
namespace Rows
def none {H : Type} : Left H := { results := [], args := [] }

/-- 'januslaw03.BlocksKeeps': WHATEVER THE INPUT: true; the input reads as it did. -/
def blocksKeepsSpec : ChangeSpec := { name := "blocksKeeps", fn := fun _ => fun
  | [d1, d2] => { results := [.lit (.bool true)], args := [d1, d2] }
  | _ => none }
def blocksKeepsRow : OpenClaim := { program := "ytihonlejlognhaa", sum := "6751d42796e73810f442ba24cb897084d5d848ca939eed07282ba19ab5ed8061", func := "janus/januslaw03.BlocksKeeps", spec := "blocksKeeps", apart := false }
def BlocksKeepsSaid : Prop := blocksKeepsRow.holds Try.pinned (OpenSpec.ofChange blocksKeepsSpec)

/-- ITS FALSE NEIGHBOUR: 'it returns false'. Refute it at one input. -/
def blocksKeepsWrong : ChangeSpec := { name := "blocksKeeps", fn := fun _ => fun
  | [d1, d2] => { results := [.lit (.bool false)], args := [d1, d2] }
  | _ => none }
def BlocksKeepsWrongFalsely : Prop := blocksKeepsRow.holds Try.pinned (OpenSpec.ofChange blocksKeepsWrong)

/-- 'januslaw03.BlocksOwn': WHATEVER THE INPUT: true; the input reads as it did. -/
def blocksOwnSpec : ChangeSpec := { name := "blocksOwn", fn := fun _ => fun
  | [d] => { results := [.lit (.bool true)], args := [d] }
  | _ => none }
def blocksOwnRow : OpenClaim := { program := "ytihonlejlognhaa", sum := "6751d42796e73810f442ba24cb897084d5d848ca939eed07282ba19ab5ed8061", func := "janus/januslaw03.BlocksOwn", spec := "blocksOwn", apart := false }
def BlocksOwnSaid : Prop := blocksOwnRow.holds Try.pinned (OpenSpec.ofChange blocksOwnSpec)

/-- ITS FALSE NEIGHBOUR: 'it returns false'. Refute it at one input. -/
def blocksOwnWrong : ChangeSpec := { name := "blocksOwn", fn := fun _ => fun
  | [d] => { results := [.lit (.bool false)], args := [d] }
  | _ => none }
def BlocksOwnWrongFalsely : Prop := blocksOwnRow.holds Try.pinned (OpenSpec.ofChange blocksOwnWrong)

/-- 'januslaw03.BlocksPlays': WHATEVER THE INPUT: true; the input reads as it did. -/
def blocksPlaysSpec : ChangeSpec := { name := "blocksPlays", fn := fun _ => fun
  | [d1, d2] => { results := [.lit (.bool true)], args := [d1, d2] }
  | _ => none }
def blocksPlaysRow : OpenClaim := { program := "ytihonlejlognhaa", sum := "6751d42796e73810f442ba24cb897084d5d848ca939eed07282ba19ab5ed8061", func := "janus/januslaw03.BlocksPlays", spec := "blocksPlays", apart := false }
def BlocksPlaysSaid : Prop := blocksPlaysRow.holds Try.pinned (OpenSpec.ofChange blocksPlaysSpec)

/-- ITS FALSE NEIGHBOUR: 'it returns false'. Refute it at one input. -/
def blocksPlaysWrong : ChangeSpec := { name := "blocksPlays", fn := fun _ => fun
  | [d1, d2] => { results := [.lit (.bool false)], args := [d1, d2] }
  | _ => none }
def BlocksPlaysWrongFalsely : Prop := blocksPlaysRow.holds Try.pinned (OpenSpec.ofChange blocksPlaysWrong)

/-- 'januslaw03.BlocksNone': WHATEVER THE INPUT: true; the input reads as it did. -/
def blocksNoneSpec : ChangeSpec := { name := "blocksNone", fn := fun _ => fun
  | [d] => { results := [.lit (.bool true)], args := [d] }
  | _ => none }
def blocksNoneRow : OpenClaim := { program := "ytihonlejlognhaa", sum := "6751d42796e73810f442ba24cb897084d5d848ca939eed07282ba19ab5ed8061", func := "janus/januslaw03.BlocksNone", spec := "blocksNone", apart := false }
def BlocksNoneSaid : Prop := blocksNoneRow.holds Try.pinned (OpenSpec.ofChange blocksNoneSpec)

/-- ITS FALSE NEIGHBOUR: 'it returns false'. Refute it at one input. -/
def blocksNoneWrong : ChangeSpec := { name := "blocksNone", fn := fun _ => fun
  | [d] => { results := [.lit (.bool false)], args := [d] }
  | _ => none }
def BlocksNoneWrongFalsely : Prop := blocksNoneRow.holds Try.pinned (OpenSpec.ofChange blocksNoneWrong)

/- THE SECOND FORM. 'bulk': how many values and letters a reading holds, each counted each time it is reached (what is shared counts as often as it is met; a slice's spare places count too). A statement '..UptoSaid' is the law's where the arguments, and the package variables that the reading takes, are together of bulk at most 1048576: NARROWER than '..Said'. Prove '..Said' where nothing that the law and all that it calls make is longer than what came in: it says more and counts as full. Else prove '..UptoSaid'. A law counts once. -/
mutual
def uptoBulk {H : Type} : DataW H → Nat
  | .lit (.string bytes) => bytes.length + 1
  | .lit _ => 1
  | .nil => 1
  | .ptr d => uptoBulk d + 1
  | .slice elems spare => uptoBulkAll elems + uptoBulkAll spare + 1
  | .agg parts => uptoBulkAll parts + 1
  | .iface _ d => uptoBulk d + 1
  | .map entries => uptoBulkEntries entries + 1
  | .held _ => 1
def uptoBulkAll {H : Type} : List (DataW H) → Nat
  | [] => 0
  | d :: r => uptoBulk d + uptoBulkAll r
def uptoBulkEntries {H : Type} : List (Lit × DataW H) → Nat
  | [] => 0
  | x :: r => uptoBulkEntry x + uptoBulkEntries r
def uptoBulkEntry {H : Type} : Lit × DataW H → Nat
  | (.string bytes, d) => bytes.length + uptoBulk d + 1
  | (_, d) => uptoBulk d + 1
 end
def uptoSmall : (H : Type) → List (DataW H) → Bool := fun _ ds => decide (uptoBulkAll ds ≤ 1048576)
def OpenSpec.upto (s : _root_.Go.ChangeSpec) : _root_.Go.OpenSpec := { _root_.Go.OpenSpec.ofChange s with cond := some uptoSmall }

/-- 'januslaw03.BlocksKeeps', WHERE WHAT IT READS IS OF BULK AT MOST 1048576: true; the input reads as it did. -/
def blocksKeepsUptoRow : OpenClaim := { program := "ytihonlejlognhaa", sum := "6751d42796e73810f442ba24cb897084d5d848ca939eed07282ba19ab5ed8061", func := "janus/januslaw03.BlocksKeeps", spec := "blocksKeeps", apart := false, narrowed := true }
def BlocksKeepsUptoSaid : Prop := blocksKeepsUptoRow.holds Try.pinned (OpenSpec.upto blocksKeepsSpec)

/-- 'januslaw03.BlocksOwn', WHERE WHAT IT READS IS OF BULK AT MOST 1048576: true; the input reads as it did. -/
def blocksOwnUptoRow : OpenClaim := { program := "ytihonlejlognhaa", sum := "6751d42796e73810f442ba24cb897084d5d848ca939eed07282ba19ab5ed8061", func := "janus/januslaw03.BlocksOwn", spec := "blocksOwn", apart := false, narrowed := true }
def BlocksOwnUptoSaid : Prop := blocksOwnUptoRow.holds Try.pinned (OpenSpec.upto blocksOwnSpec)

/-- 'januslaw03.BlocksPlays', WHERE WHAT IT READS IS OF BULK AT MOST 1048576: true; the input reads as it did. -/
def blocksPlaysUptoRow : OpenClaim := { program := "ytihonlejlognhaa", sum := "6751d42796e73810f442ba24cb897084d5d848ca939eed07282ba19ab5ed8061", func := "janus/januslaw03.BlocksPlays", spec := "blocksPlays", apart := false, narrowed := true }
def BlocksPlaysUptoSaid : Prop := blocksPlaysUptoRow.holds Try.pinned (OpenSpec.upto blocksPlaysSpec)

/-- 'januslaw03.BlocksNone', WHERE WHAT IT READS IS OF BULK AT MOST 1048576: true; the input reads as it did. -/
def blocksNoneUptoRow : OpenClaim := { program := "ytihonlejlognhaa", sum := "6751d42796e73810f442ba24cb897084d5d848ca939eed07282ba19ab5ed8061", func := "janus/januslaw03.BlocksNone", spec := "blocksNone", apart := false, narrowed := true }
def BlocksNoneUptoSaid : Prop := blocksNoneUptoRow.holds Try.pinned (OpenSpec.upto blocksNoneSpec)

end Rows
end Go.Proofs.Ytihonlejlognhaa

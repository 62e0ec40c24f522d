/-
  No cell of these rows narrows 'for every input' (looked for: loops, veiled, ifaces, maps, wideKeys, modest, calm, conditions, laid).
  DERIVED. THE GIVEN ROWS OF THIS SEAT. 5 by the template 'for every input the law returns true; each argument reads behind the call as it read before'; 0 by the template 'total and deterministic' (their statements: YtjlgbofgmjplaaaTotals.lean).
  GIVEN WITH THE SEED: the statements are not yours to turn. If you find one false, say at which input.
  Laid BY PROGRAM, IN A SANDBOX (cutbox-rows.mjs): the forced cells as the released guide's own fill.sh prints them over the translation 82edc634fee3e5e9… (all of the seat's roots in one cut). By AI agents, Wed Nov 11 2026. No macro, syntax, notation, axiom, sorry.
-/
import Derived.Test.YtjlgbofgmjplaaaChecked
import GoSem.Claim
import GoSem.ClaimJoined
import GoSem.ClaimMapViews
import Derived.JoinedTies
import Derived.KernelRfl
namespace Go.Proofs.Ytjlgbofgmjplaaa
/- THE CELL 'sum', in the pinned program and in every row, IS THE sha256 OF THE DUMP (.gsa) THAT YtjlgbofgmjplaaaProg.lean LOADS. Nothing in Lean hashes anything: it is a label: what it is worth is what the hold of that sum in a sandbox is worth. -/
noncomputable def Try.pinned : Pinned := { name := "ytjlgbofgmjplaaa", sum := "82edc634fee3e5e995bf438c6479412e02e50770bd2d6006e82cbe109be935b3", checked := Try.checked }
namespace Rows
def none {H : Type} : Left H := { results := [], args := [] }

/-- 'januslaw19.PipesOrder': WHATEVER THE INPUT: true; the input reads as it did. -/
def pipesOrderSpec : ChangeSpec := { name := "pipesOrder", fn := fun _ => fun
  | [d] => { results := [.lit (.bool true)], args := [d] }
  | _ => none }
def pipesOrderRow : OpenClaim := { program := "ytjlgbofgmjplaaa", sum := "82edc634fee3e5e995bf438c6479412e02e50770bd2d6006e82cbe109be935b3", func := "janus/januslaw19.PipesOrder", spec := "pipesOrder", apart := false }
def PipesOrderSaid : Prop := pipesOrderRow.holds Try.pinned (OpenSpec.ofChange pipesOrderSpec)

/-- ITS FALSE NEIGHBOUR: 'it returns false'. Refute it at one input. -/
def pipesOrderWrong : ChangeSpec := { name := "pipesOrder", fn := fun _ => fun
  | [d] => { results := [.lit (.bool false)], args := [d] }
  | _ => none }
def PipesOrderWrongFalsely : Prop := pipesOrderRow.holds Try.pinned (OpenSpec.ofChange pipesOrderWrong)

/-- 'januslaw19.PipesRoom': WHATEVER THE INPUT: true; the input reads as it did. -/
def pipesRoomSpec : ChangeSpec := { name := "pipesRoom", fn := fun _ => fun
  | [d] => { results := [.lit (.bool true)], args := [d] }
  | _ => none }
def pipesRoomRow : OpenClaim := { program := "ytjlgbofgmjplaaa", sum := "82edc634fee3e5e995bf438c6479412e02e50770bd2d6006e82cbe109be935b3", func := "janus/januslaw19.PipesRoom", spec := "pipesRoom", apart := false }
def PipesRoomSaid : Prop := pipesRoomRow.holds Try.pinned (OpenSpec.ofChange pipesRoomSpec)

/-- ITS FALSE NEIGHBOUR: 'it returns false'. Refute it at one input. -/
def pipesRoomWrong : ChangeSpec := { name := "pipesRoom", fn := fun _ => fun
  | [d] => { results := [.lit (.bool false)], args := [d] }
  | _ => none }
def PipesRoomWrongFalsely : Prop := pipesRoomRow.holds Try.pinned (OpenSpec.ofChange pipesRoomWrong)

/-- 'januslaw19.PipesNone': WHATEVER THE INPUT: true; the input reads as it did. -/
def pipesNoneSpec : ChangeSpec := { name := "pipesNone", fn := fun _ => fun
  | [d] => { results := [.lit (.bool true)], args := [d] }
  | _ => none }
def pipesNoneRow : OpenClaim := { program := "ytjlgbofgmjplaaa", sum := "82edc634fee3e5e995bf438c6479412e02e50770bd2d6006e82cbe109be935b3", func := "janus/januslaw19.PipesNone", spec := "pipesNone", apart := false }
def PipesNoneSaid : Prop := pipesNoneRow.holds Try.pinned (OpenSpec.ofChange pipesNoneSpec)

/-- ITS FALSE NEIGHBOUR: 'it returns false'. Refute it at one input. -/
def pipesNoneWrong : ChangeSpec := { name := "pipesNone", fn := fun _ => fun
  | [d] => { results := [.lit (.bool false)], args := [d] }
  | _ => none }
def PipesNoneWrongFalsely : Prop := pipesNoneRow.holds Try.pinned (OpenSpec.ofChange pipesNoneWrong)

/-- 'januslaw19.PipesReads': WHATEVER THE INPUT: true; the input reads as it did. -/
def pipesReadsSpec : ChangeSpec := { name := "pipesReads", fn := fun _ => fun
  | [d] => { results := [.lit (.bool true)], args := [d] }
  | _ => none }
def pipesReadsRow : OpenClaim := { program := "ytjlgbofgmjplaaa", sum := "82edc634fee3e5e995bf438c6479412e02e50770bd2d6006e82cbe109be935b3", func := "janus/januslaw19.PipesReads", spec := "pipesReads", unfollowed := true, recurses := true, apart := false }
def PipesReadsSaid : Prop := pipesReadsRow.holds Try.pinned (OpenSpec.ofChange pipesReadsSpec)

/-- ITS FALSE NEIGHBOUR: 'it returns false'. Refute it at one input. -/
def pipesReadsWrong : ChangeSpec := { name := "pipesReads", fn := fun _ => fun
  | [d] => { results := [.lit (.bool false)], args := [d] }
  | _ => none }
def PipesReadsWrongFalsely : Prop := pipesReadsRow.holds Try.pinned (OpenSpec.ofChange pipesReadsWrong)

/-- 'januslaw19.PipesPlays': WHATEVER THE INPUT: true; the input reads as it did. -/
def pipesPlaysSpec : ChangeSpec := { name := "pipesPlays", fn := fun _ => fun
  | [d] => { results := [.lit (.bool true)], args := [d] }
  | _ => none }
def pipesPlaysRow : OpenClaim := { program := "ytjlgbofgmjplaaa", sum := "82edc634fee3e5e995bf438c6479412e02e50770bd2d6006e82cbe109be935b3", func := "janus/januslaw19.PipesPlays", spec := "pipesPlays", unfollowed := true, recurses := true, apart := false }
def PipesPlaysSaid : Prop := pipesPlaysRow.holds Try.pinned (OpenSpec.ofChange pipesPlaysSpec)

/-- ITS FALSE NEIGHBOUR: 'it returns false'. Refute it at one input. -/
def pipesPlaysWrong : ChangeSpec := { name := "pipesPlays", fn := fun _ => fun
  | [d] => { results := [.lit (.bool false)], args := [d] }
  | _ => none }
def PipesPlaysWrongFalsely : Prop := pipesPlaysRow.holds Try.pinned (OpenSpec.ofChange pipesPlaysWrong)

/- THE SECOND FORM. 'bulk': how many values and letters a reading holds, each counted each time it is reached (what is shared counts as often as it is met; a slice's spare places count too). A statement '..UptoSaid' is the law's where the arguments, and the package variables that the reading takes, are together of bulk at most 1048576: NARROWER than '..Said'. Prove '..Said' where nothing that the law and all that it calls make is longer than what came in: it says more and counts as full. Else prove '..UptoSaid'. A law counts once. -/
mutual
def uptoBulk {H : Type} : DataW H → Nat
  | .lit (.string bytes) => bytes.length + 1
  | .lit _ => 1
  | .nil => 1
  | .ptr d => uptoBulk d + 1
  | .slice elems spare => uptoBulkAll elems + uptoBulkAll spare + 1
  | .agg parts => uptoBulkAll parts + 1
  | .iface _ d => uptoBulk d + 1
  | .map entries => uptoBulkEntries entries + 1
  | .held _ => 1
def uptoBulkAll {H : Type} : List (DataW H) → Nat
  | [] => 0
  | d :: r => uptoBulk d + uptoBulkAll r
def uptoBulkEntries {H : Type} : List (Lit × DataW H) → Nat
  | [] => 0
  | x :: r => uptoBulkEntry x + uptoBulkEntries r
def uptoBulkEntry {H : Type} : Lit × DataW H → Nat
  | (.string bytes, d) => bytes.length + uptoBulk d + 1
  | (_, d) => uptoBulk d + 1
 end
def uptoSmall : (H : Type) → List (DataW H) → Bool := fun _ ds => decide (uptoBulkAll ds ≤ 1048576)
def OpenSpec.upto (s : _root_.Go.ChangeSpec) : _root_.Go.OpenSpec := { _root_.Go.OpenSpec.ofChange s with cond := some uptoSmall }

/-- 'januslaw19.PipesOrder', WHERE WHAT IT READS IS OF BULK AT MOST 1048576: true; the input reads as it did. -/
def pipesOrderUptoRow : OpenClaim := { program := "ytjlgbofgmjplaaa", sum := "82edc634fee3e5e995bf438c6479412e02e50770bd2d6006e82cbe109be935b3", func := "janus/januslaw19.PipesOrder", spec := "pipesOrder", apart := false, narrowed := true }
def PipesOrderUptoSaid : Prop := pipesOrderUptoRow.holds Try.pinned (OpenSpec.upto pipesOrderSpec)

/-- 'januslaw19.PipesRoom', WHERE WHAT IT READS IS OF BULK AT MOST 1048576: true; the input reads as it did. -/
def pipesRoomUptoRow : OpenClaim := { program := "ytjlgbofgmjplaaa", sum := "82edc634fee3e5e995bf438c6479412e02e50770bd2d6006e82cbe109be935b3", func := "janus/januslaw19.PipesRoom", spec := "pipesRoom", apart := false, narrowed := true }
def PipesRoomUptoSaid : Prop := pipesRoomUptoRow.holds Try.pinned (OpenSpec.upto pipesRoomSpec)

/-- 'januslaw19.PipesNone', WHERE WHAT IT READS IS OF BULK AT MOST 1048576: true; the input reads as it did. -/
def pipesNoneUptoRow : OpenClaim := { program := "ytjlgbofgmjplaaa", sum := "82edc634fee3e5e995bf438c6479412e02e50770bd2d6006e82cbe109be935b3", func := "janus/januslaw19.PipesNone", spec := "pipesNone", apart := false, narrowed := true }
def PipesNoneUptoSaid : Prop := pipesNoneUptoRow.holds Try.pinned (OpenSpec.upto pipesNoneSpec)

/-- 'januslaw19.PipesReads', WHERE WHAT IT READS IS OF BULK AT MOST 1048576: true; the input reads as it did. -/
def pipesReadsUptoRow : OpenClaim := { program := "ytjlgbofgmjplaaa", sum := "82edc634fee3e5e995bf438c6479412e02e50770bd2d6006e82cbe109be935b3", func := "janus/januslaw19.PipesReads", spec := "pipesReads", unfollowed := true, recurses := true, apart := false, narrowed := true }
def PipesReadsUptoSaid : Prop := pipesReadsUptoRow.holds Try.pinned (OpenSpec.upto pipesReadsSpec)

/-- 'januslaw19.PipesPlays', WHERE WHAT IT READS IS OF BULK AT MOST 1048576: true; the input reads as it did. -/
def pipesPlaysUptoRow : OpenClaim := { program := "ytjlgbofgmjplaaa", sum := "82edc634fee3e5e995bf438c6479412e02e50770bd2d6006e82cbe109be935b3", func := "janus/januslaw19.PipesPlays", spec := "pipesPlays", unfollowed := true, recurses := true, apart := false, narrowed := true }
def PipesPlaysUptoSaid : Prop := pipesPlaysUptoRow.holds Try.pinned (OpenSpec.upto pipesPlaysSpec)

end Rows
end Go.Proofs.Ytjlgbofgmjplaaa

/-
  No cell of these rows narrows 'for every input' (looked for: loops, veiled, ifaces, maps, wideKeys, modest, calm, conditions, laid).
  DERIVED. THE GIVEN ROWS OF THIS SEAT. 5 by the template 'for every input the law returns true; each argument reads behind the call as it read before'; 0 by the template 'total and deterministic' (their statements: YtmpaiobapmpngaaTotals.lean).
  GIVEN WITH THE SEED: the statements are not yours to turn. If you find one false, say at which input.
  Laid BY PROGRAM, IN A SANDBOX (cutbox-rows.mjs): the forced cells as the released guide's own fill.sh prints them over the translation 7e31efe51bcc340a… (all of the seat's roots in one cut). By AI agents, Wed Nov 11 2026. No macro, syntax, notation, axiom, sorry.
-/
import Derived.Test.YtmpaiobapmpngaaChecked
import GoSem.Claim
import GoSem.ClaimJoined
import GoSem.ClaimMapViews
import Derived.JoinedTies
import Derived.KernelRfl
namespace Go.Proofs.Ytmpaiobapmpngaa
/- THE CELL 'sum', in the pinned program and in every row, IS THE sha256 OF THE DUMP (.gsa) THAT YtmpaiobapmpngaaProg.lean LOADS. Nothing in Lean hashes anything: it is a label: what it is worth is what the hold of that sum in a sandbox is worth. -/
noncomputable def Try.pinned : Pinned := { name := "ytmpaiobapmpngaa", sum := "7e31efe51bcc340a733cbd5f4a7fda29f8bccb9ab30aca972218e14886a748f5", checked := Try.checked }
namespace Rows
def none {H : Type} : Left H := { results := [], args := [] }

/-- 'januslaw18.FdsReads': WHATEVER THE INPUT: true; the input reads as it did. -/
def fdsReadsSpec : ChangeSpec := { name := "fdsReads", fn := fun _ => fun
  | [d] => { results := [.lit (.bool true)], args := [d] }
  | _ => none }
def fdsReadsRow : OpenClaim := { program := "ytmpaiobapmpngaa", sum := "7e31efe51bcc340a733cbd5f4a7fda29f8bccb9ab30aca972218e14886a748f5", func := "janus/januslaw18.FdsReads", spec := "fdsReads", unfollowed := true, recurses := true, apart := false }
def FdsReadsSaid : Prop := fdsReadsRow.holds Try.pinned (OpenSpec.ofChange fdsReadsSpec)

/-- ITS FALSE NEIGHBOUR: 'it returns false'. Refute it at one input. -/
def fdsReadsWrong : ChangeSpec := { name := "fdsReads", fn := fun _ => fun
  | [d] => { results := [.lit (.bool false)], args := [d] }
  | _ => none }
def FdsReadsWrongFalsely : Prop := fdsReadsRow.holds Try.pinned (OpenSpec.ofChange fdsReadsWrong)

/-- 'januslaw18.FdsRefs': WHATEVER THE INPUT: true; the input reads as it did. -/
def fdsRefsSpec : ChangeSpec := { name := "fdsRefs", fn := fun _ => fun
  | [d] => { results := [.lit (.bool true)], args := [d] }
  | _ => none }
def fdsRefsRow : OpenClaim := { program := "ytmpaiobapmpngaa", sum := "7e31efe51bcc340a733cbd5f4a7fda29f8bccb9ab30aca972218e14886a748f5", func := "janus/januslaw18.FdsRefs", spec := "fdsRefs", unfollowed := true, recurses := true, apart := false }
def FdsRefsSaid : Prop := fdsRefsRow.holds Try.pinned (OpenSpec.ofChange fdsRefsSpec)

/-- ITS FALSE NEIGHBOUR: 'it returns false'. Refute it at one input. -/
def fdsRefsWrong : ChangeSpec := { name := "fdsRefs", fn := fun _ => fun
  | [d] => { results := [.lit (.bool false)], args := [d] }
  | _ => none }
def FdsRefsWrongFalsely : Prop := fdsRefsRow.holds Try.pinned (OpenSpec.ofChange fdsRefsWrong)

/-- 'januslaw18.FdsShares': WHATEVER THE INPUT: true; the input reads as it did. -/
def fdsSharesSpec : ChangeSpec := { name := "fdsShares", fn := fun _ => fun
  | [d] => { results := [.lit (.bool true)], args := [d] }
  | _ => none }
def fdsSharesRow : OpenClaim := { program := "ytmpaiobapmpngaa", sum := "7e31efe51bcc340a733cbd5f4a7fda29f8bccb9ab30aca972218e14886a748f5", func := "janus/januslaw18.FdsShares", spec := "fdsShares", unfollowed := true, recurses := true, apart := false }
def FdsSharesSaid : Prop := fdsSharesRow.holds Try.pinned (OpenSpec.ofChange fdsSharesSpec)

/-- ITS FALSE NEIGHBOUR: 'it returns false'. Refute it at one input. -/
def fdsSharesWrong : ChangeSpec := { name := "fdsShares", fn := fun _ => fun
  | [d] => { results := [.lit (.bool false)], args := [d] }
  | _ => none }
def FdsSharesWrongFalsely : Prop := fdsSharesRow.holds Try.pinned (OpenSpec.ofChange fdsSharesWrong)

/-- 'januslaw18.FdsPlays': WHATEVER THE INPUT: true; the input reads as it did. -/
def fdsPlaysSpec : ChangeSpec := { name := "fdsPlays", fn := fun _ => fun
  | [d] => { results := [.lit (.bool true)], args := [d] }
  | _ => none }
def fdsPlaysRow : OpenClaim := { program := "ytmpaiobapmpngaa", sum := "7e31efe51bcc340a733cbd5f4a7fda29f8bccb9ab30aca972218e14886a748f5", func := "janus/januslaw18.FdsPlays", spec := "fdsPlays", unfollowed := true, recurses := true, apart := false }
def FdsPlaysSaid : Prop := fdsPlaysRow.holds Try.pinned (OpenSpec.ofChange fdsPlaysSpec)

/-- ITS FALSE NEIGHBOUR: 'it returns false'. Refute it at one input. -/
def fdsPlaysWrong : ChangeSpec := { name := "fdsPlays", fn := fun _ => fun
  | [d] => { results := [.lit (.bool false)], args := [d] }
  | _ => none }
def FdsPlaysWrongFalsely : Prop := fdsPlaysRow.holds Try.pinned (OpenSpec.ofChange fdsPlaysWrong)

/-- 'januslaw18.FdsNone': WHATEVER THE INPUT: true; the input reads as it did. -/
def fdsNoneSpec : ChangeSpec := { name := "fdsNone", fn := fun _ => fun
  | [d] => { results := [.lit (.bool true)], args := [d] }
  | _ => none }
def fdsNoneRow : OpenClaim := { program := "ytmpaiobapmpngaa", sum := "7e31efe51bcc340a733cbd5f4a7fda29f8bccb9ab30aca972218e14886a748f5", func := "janus/januslaw18.FdsNone", spec := "fdsNone", unfollowed := true, recurses := true, apart := false }
def FdsNoneSaid : Prop := fdsNoneRow.holds Try.pinned (OpenSpec.ofChange fdsNoneSpec)

/-- ITS FALSE NEIGHBOUR: 'it returns false'. Refute it at one input. -/
def fdsNoneWrong : ChangeSpec := { name := "fdsNone", fn := fun _ => fun
  | [d] => { results := [.lit (.bool false)], args := [d] }
  | _ => none }
def FdsNoneWrongFalsely : Prop := fdsNoneRow.holds Try.pinned (OpenSpec.ofChange fdsNoneWrong)

/- THE SECOND FORM. 'bulk': how many values and letters a reading holds, each counted each time it is reached (what is shared counts as often as it is met; a slice's spare places count too). A statement '..UptoSaid' is the law's where the arguments, and the package variables that the reading takes, are together of bulk at most 1048576: NARROWER than '..Said'. Prove '..Said' where nothing that the law and all that it calls make is longer than what came in: it says more and counts as full. Else prove '..UptoSaid'. A law counts once. -/
mutual
def uptoBulk {H : Type} : DataW H → Nat
  | .lit (.string bytes) => bytes.length + 1
  | .lit _ => 1
  | .nil => 1
  | .ptr d => uptoBulk d + 1
  | .slice elems spare => uptoBulkAll elems + uptoBulkAll spare + 1
  | .agg parts => uptoBulkAll parts + 1
  | .iface _ d => uptoBulk d + 1
  | .map entries => uptoBulkEntries entries + 1
  | .held _ => 1
def uptoBulkAll {H : Type} : List (DataW H) → Nat
  | [] => 0
  | d :: r => uptoBulk d + uptoBulkAll r
def uptoBulkEntries {H : Type} : List (Lit × DataW H) → Nat
  | [] => 0
  | x :: r => uptoBulkEntry x + uptoBulkEntries r
def uptoBulkEntry {H : Type} : Lit × DataW H → Nat
  | (.string bytes, d) => bytes.length + uptoBulk d + 1
  | (_, d) => uptoBulk d + 1
 end
def uptoSmall : (H : Type) → List (DataW H) → Bool := fun _ ds => decide (uptoBulkAll ds ≤ 1048576)
def OpenSpec.upto (s : _root_.Go.ChangeSpec) : _root_.Go.OpenSpec := { _root_.Go.OpenSpec.ofChange s with cond := some uptoSmall }

/-- 'januslaw18.FdsReads', WHERE WHAT IT READS IS OF BULK AT MOST 1048576: true; the input reads as it did. -/
def fdsReadsUptoRow : OpenClaim := { program := "ytmpaiobapmpngaa", sum := "7e31efe51bcc340a733cbd5f4a7fda29f8bccb9ab30aca972218e14886a748f5", func := "janus/januslaw18.FdsReads", spec := "fdsReads", unfollowed := true, recurses := true, apart := false, narrowed := true }
def FdsReadsUptoSaid : Prop := fdsReadsUptoRow.holds Try.pinned (OpenSpec.upto fdsReadsSpec)

/-- 'januslaw18.FdsRefs', WHERE WHAT IT READS IS OF BULK AT MOST 1048576: true; the input reads as it did. -/
def fdsRefsUptoRow : OpenClaim := { program := "ytmpaiobapmpngaa", sum := "7e31efe51bcc340a733cbd5f4a7fda29f8bccb9ab30aca972218e14886a748f5", func := "janus/januslaw18.FdsRefs", spec := "fdsRefs", unfollowed := true, recurses := true, apart := false, narrowed := true }
def FdsRefsUptoSaid : Prop := fdsRefsUptoRow.holds Try.pinned (OpenSpec.upto fdsRefsSpec)

/-- 'januslaw18.FdsShares', WHERE WHAT IT READS IS OF BULK AT MOST 1048576: true; the input reads as it did. -/
def fdsSharesUptoRow : OpenClaim := { program := "ytmpaiobapmpngaa", sum := "7e31efe51bcc340a733cbd5f4a7fda29f8bccb9ab30aca972218e14886a748f5", func := "janus/januslaw18.FdsShares", spec := "fdsShares", unfollowed := true, recurses := true, apart := false, narrowed := true }
def FdsSharesUptoSaid : Prop := fdsSharesUptoRow.holds Try.pinned (OpenSpec.upto fdsSharesSpec)

/-- 'januslaw18.FdsPlays', WHERE WHAT IT READS IS OF BULK AT MOST 1048576: true; the input reads as it did. -/
def fdsPlaysUptoRow : OpenClaim := { program := "ytmpaiobapmpngaa", sum := "7e31efe51bcc340a733cbd5f4a7fda29f8bccb9ab30aca972218e14886a748f5", func := "janus/januslaw18.FdsPlays", spec := "fdsPlays", unfollowed := true, recurses := true, apart := false, narrowed := true }
def FdsPlaysUptoSaid : Prop := fdsPlaysUptoRow.holds Try.pinned (OpenSpec.upto fdsPlaysSpec)

/-- 'januslaw18.FdsNone', WHERE WHAT IT READS IS OF BULK AT MOST 1048576: true; the input reads as it did. -/
def fdsNoneUptoRow : OpenClaim := { program := "ytmpaiobapmpngaa", sum := "7e31efe51bcc340a733cbd5f4a7fda29f8bccb9ab30aca972218e14886a748f5", func := "janus/januslaw18.FdsNone", spec := "fdsNone", unfollowed := true, recurses := true, apart := false, narrowed := true }
def FdsNoneUptoSaid : Prop := fdsNoneUptoRow.holds Try.pinned (OpenSpec.upto fdsNoneSpec)

end Rows
end Go.Proofs.Ytmpaiobapmpngaa

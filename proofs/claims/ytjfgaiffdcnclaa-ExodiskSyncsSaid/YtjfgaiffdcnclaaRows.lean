/-
  No cell of these rows narrows 'for every input' (looked for: loops, veiled, ifaces, maps, wideKeys, modest, calm, conditions, laid).
  DERIVED. THE GIVEN ROWS OF THIS SEAT. 4 by the template 'for every input the law returns true; each argument reads behind the call as it read before'; 0 by the template 'total and deterministic' (their statements: YtjfgaiffdcnclaaTotals.lean).
  GIVEN WITH THE SEED: the statements are not yours to turn. If you find one false, say at which input.
  Laid BY PROGRAM, IN A SANDBOX (cutbox-rows.mjs): the forced cells as the released guide's own fill.sh prints them over the translation 6298d6d9cf2e1a30… (all of the seat's roots in one cut). By AI agents, Wed Nov 11 2026. No macro, syntax, notation, axiom, sorry.
-/
import Derived.Test.YtjfgaiffdcnclaaChecked
import GoSem.Claim
import GoSem.ClaimJoined
import GoSem.ClaimMapViews
import Derived.JoinedTies
import Derived.KernelRfl
namespace Go.Proofs.Ytjfgaiffdcnclaa
/- THE CELL 'sum', in the pinned program and in every row, IS THE sha256 OF THE DUMP (.gsa) THAT YtjfgaiffdcnclaaProg.lean LOADS. Nothing in Lean hashes anything: it is a label: what it is worth is what the hold of that sum in a sandbox is worth. -/
noncomputable def Try.pinned : Pinned := { name := "ytjfgaiffdcnclaa", sum := "6298d6d9cf2e1a307c923e4a3f8abf5f2ae59688a1a157c935f31b8b13509317", checked := Try.checked }
namespace Rows
def none {H : Type} : Left H := { results := [], args := [] }

/-- 'januslaw12.ExodiskSyncs': WHATEVER THE INPUT: true; the input reads as it did. -/
def exodiskSyncsSpec : ChangeSpec := { name := "exodiskSyncs", fn := fun _ => fun
  | [d] => { results := [.lit (.bool true)], args := [d] }
  | _ => none }
def exodiskSyncsRow : OpenClaim := { program := "ytjfgaiffdcnclaa", sum := "6298d6d9cf2e1a307c923e4a3f8abf5f2ae59688a1a157c935f31b8b13509317", func := "janus/januslaw12.ExodiskSyncs", spec := "exodiskSyncs", unfollowed := true, recurses := true, apart := false }
def ExodiskSyncsSaid : Prop := exodiskSyncsRow.holds Try.pinned (OpenSpec.ofChange exodiskSyncsSpec)

/-- ITS FALSE NEIGHBOUR: 'it returns false'. Refute it at one input. -/
def exodiskSyncsWrong : ChangeSpec := { name := "exodiskSyncs", fn := fun _ => fun
  | [d] => { results := [.lit (.bool false)], args := [d] }
  | _ => none }
def ExodiskSyncsWrongFalsely : Prop := exodiskSyncsRow.holds Try.pinned (OpenSpec.ofChange exodiskSyncsWrong)

/-- 'januslaw12.ExodiskShares': WHATEVER THE INPUT: true; the input reads as it did. -/
def exodiskSharesSpec : ChangeSpec := { name := "exodiskShares", fn := fun _ => fun
  | [d1, d2] => { results := [.lit (.bool true)], args := [d1, d2] }
  | _ => none }
def exodiskSharesRow : OpenClaim := { program := "ytjfgaiffdcnclaa", sum := "6298d6d9cf2e1a307c923e4a3f8abf5f2ae59688a1a157c935f31b8b13509317", func := "janus/januslaw12.ExodiskShares", spec := "exodiskShares", unfollowed := true, recurses := true, apart := false }
def ExodiskSharesSaid : Prop := exodiskSharesRow.holds Try.pinned (OpenSpec.ofChange exodiskSharesSpec)

/-- ITS FALSE NEIGHBOUR: 'it returns false'. Refute it at one input. -/
def exodiskSharesWrong : ChangeSpec := { name := "exodiskShares", fn := fun _ => fun
  | [d1, d2] => { results := [.lit (.bool false)], args := [d1, d2] }
  | _ => none }
def ExodiskSharesWrongFalsely : Prop := exodiskSharesRow.holds Try.pinned (OpenSpec.ofChange exodiskSharesWrong)

/-- 'januslaw12.ExodiskGuards': WHATEVER THE INPUT: true; the input reads as it did. -/
def exodiskGuardsSpec : ChangeSpec := { name := "exodiskGuards", fn := fun _ => fun
  | [d1, d2] => { results := [.lit (.bool true)], args := [d1, d2] }
  | _ => none }
def exodiskGuardsRow : OpenClaim := { program := "ytjfgaiffdcnclaa", sum := "6298d6d9cf2e1a307c923e4a3f8abf5f2ae59688a1a157c935f31b8b13509317", func := "janus/januslaw12.ExodiskGuards", spec := "exodiskGuards", unfollowed := true, recurses := true, apart := false }
def ExodiskGuardsSaid : Prop := exodiskGuardsRow.holds Try.pinned (OpenSpec.ofChange exodiskGuardsSpec)

/-- ITS FALSE NEIGHBOUR: 'it returns false'. Refute it at one input. -/
def exodiskGuardsWrong : ChangeSpec := { name := "exodiskGuards", fn := fun _ => fun
  | [d1, d2] => { results := [.lit (.bool false)], args := [d1, d2] }
  | _ => none }
def ExodiskGuardsWrongFalsely : Prop := exodiskGuardsRow.holds Try.pinned (OpenSpec.ofChange exodiskGuardsWrong)

/-- 'januslaw12.ExodiskNone': WHATEVER THE INPUT: true; the input reads as it did. -/
def exodiskNoneSpec : ChangeSpec := { name := "exodiskNone", fn := fun _ => fun
  | [d] => { results := [.lit (.bool true)], args := [d] }
  | _ => none }
def exodiskNoneRow : OpenClaim := { program := "ytjfgaiffdcnclaa", sum := "6298d6d9cf2e1a307c923e4a3f8abf5f2ae59688a1a157c935f31b8b13509317", func := "janus/januslaw12.ExodiskNone", spec := "exodiskNone", unfollowed := true, recurses := true, apart := false }
def ExodiskNoneSaid : Prop := exodiskNoneRow.holds Try.pinned (OpenSpec.ofChange exodiskNoneSpec)

/-- ITS FALSE NEIGHBOUR: 'it returns false'. Refute it at one input. -/
def exodiskNoneWrong : ChangeSpec := { name := "exodiskNone", fn := fun _ => fun
  | [d] => { results := [.lit (.bool false)], args := [d] }
  | _ => none }
def ExodiskNoneWrongFalsely : Prop := exodiskNoneRow.holds Try.pinned (OpenSpec.ofChange exodiskNoneWrong)

/- THE SECOND FORM. 'bulk': how many values and letters a reading holds, each counted each time it is reached (what is shared counts as often as it is met; a slice's spare places count too). A statement '..UptoSaid' is the law's where the arguments, and the package variables that the reading takes, are together of bulk at most 1048576: NARROWER than '..Said'. Prove '..Said' where nothing that the law and all that it calls make is longer than what came in: it says more and counts as full. Else prove '..UptoSaid'. A law counts once. -/
mutual
def uptoBulk {H : Type} : DataW H → Nat
  | .lit (.string bytes) => bytes.length + 1
  | .lit _ => 1
  | .nil => 1
  | .ptr d => uptoBulk d + 1
  | .slice elems spare => uptoBulkAll elems + uptoBulkAll spare + 1
  | .agg parts => uptoBulkAll parts + 1
  | .iface _ d => uptoBulk d + 1
  | .map entries => uptoBulkEntries entries + 1
  | .held _ => 1
def uptoBulkAll {H : Type} : List (DataW H) → Nat
  | [] => 0
  | d :: r => uptoBulk d + uptoBulkAll r
def uptoBulkEntries {H : Type} : List (Lit × DataW H) → Nat
  | [] => 0
  | x :: r => uptoBulkEntry x + uptoBulkEntries r
def uptoBulkEntry {H : Type} : Lit × DataW H → Nat
  | (.string bytes, d) => bytes.length + uptoBulk d + 1
  | (_, d) => uptoBulk d + 1
 end
def uptoSmall : (H : Type) → List (DataW H) → Bool := fun _ ds => decide (uptoBulkAll ds ≤ 1048576)
def OpenSpec.upto (s : _root_.Go.ChangeSpec) : _root_.Go.OpenSpec := { _root_.Go.OpenSpec.ofChange s with cond := some uptoSmall }

/-- 'januslaw12.ExodiskSyncs', WHERE WHAT IT READS IS OF BULK AT MOST 1048576: true; the input reads as it did. -/
def exodiskSyncsUptoRow : OpenClaim := { program := "ytjfgaiffdcnclaa", sum := "6298d6d9cf2e1a307c923e4a3f8abf5f2ae59688a1a157c935f31b8b13509317", func := "janus/januslaw12.ExodiskSyncs", spec := "exodiskSyncs", unfollowed := true, recurses := true, apart := false, narrowed := true }
def ExodiskSyncsUptoSaid : Prop := exodiskSyncsUptoRow.holds Try.pinned (OpenSpec.upto exodiskSyncsSpec)

/-- 'januslaw12.ExodiskShares', WHERE WHAT IT READS IS OF BULK AT MOST 1048576: true; the input reads as it did. -/
def exodiskSharesUptoRow : OpenClaim := { program := "ytjfgaiffdcnclaa", sum := "6298d6d9cf2e1a307c923e4a3f8abf5f2ae59688a1a157c935f31b8b13509317", func := "janus/januslaw12.ExodiskShares", spec := "exodiskShares", unfollowed := true, recurses := true, apart := false, narrowed := true }
def ExodiskSharesUptoSaid : Prop := exodiskSharesUptoRow.holds Try.pinned (OpenSpec.upto exodiskSharesSpec)

/-- 'januslaw12.ExodiskGuards', WHERE WHAT IT READS IS OF BULK AT MOST 1048576: true; the input reads as it did. -/
def exodiskGuardsUptoRow : OpenClaim := { program := "ytjfgaiffdcnclaa", sum := "6298d6d9cf2e1a307c923e4a3f8abf5f2ae59688a1a157c935f31b8b13509317", func := "janus/januslaw12.ExodiskGuards", spec := "exodiskGuards", unfollowed := true, recurses := true, apart := false, narrowed := true }
def ExodiskGuardsUptoSaid : Prop := exodiskGuardsUptoRow.holds Try.pinned (OpenSpec.upto exodiskGuardsSpec)

/-- 'januslaw12.ExodiskNone', WHERE WHAT IT READS IS OF BULK AT MOST 1048576: true; the input reads as it did. -/
def exodiskNoneUptoRow : OpenClaim := { program := "ytjfgaiffdcnclaa", sum := "6298d6d9cf2e1a307c923e4a3f8abf5f2ae59688a1a157c935f31b8b13509317", func := "janus/januslaw12.ExodiskNone", spec := "exodiskNone", unfollowed := true, recurses := true, apart := false, narrowed := true }
def ExodiskNoneUptoSaid : Prop := exodiskNoneUptoRow.holds Try.pinned (OpenSpec.upto exodiskNoneSpec)

end Rows
end Go.Proofs.Ytjfgaiffdcnclaa

/-
  No cell of these rows narrows 'for every input' (looked for: loops, veiled, ifaces, maps, wideKeys, modest, calm, conditions, laid).
  DERIVED. THE GIVEN ROWS OF THIS SEAT. 4 by the template 'for every input the law returns true; each argument reads behind the call as it read before'; 0 by the template 'total and deterministic' (their statements: YtgcbaomkoakmiaaTotals.lean).
  GIVEN WITH THE SEED: the statements are not yours to turn. If you find one false, say at which input.
  Laid BY PROGRAM, IN A SANDBOX (cutbox-rows.mjs): the forced cells as the released guide's own fill.sh prints them over the translation bdad02d054b863cd… (all of the seat's roots in one cut). By AI agents, Wed Nov 11 2026. No macro, syntax, notation, axiom, sorry.
-/
import Derived.Test.YtgcbaomkoakmiaaChecked
import GoSem.Claim
import GoSem.ClaimJoined
import GoSem.ClaimMapViews
import Derived.JoinedTies
import Derived.KernelRfl
namespace Go.Proofs.Ytgcbaomkoakmiaa
/- THE CELL 'sum', in the pinned program and in every row, IS THE sha256 OF THE DUMP (.gsa) THAT YtgcbaomkoakmiaaProg.lean LOADS. Nothing in Lean hashes anything: it is a label: what it is worth is what the hold of that sum in a sandbox is worth. -/
noncomputable def Try.pinned : Pinned := { name := "ytgcbaomkoakmiaa", sum := "bdad02d054b863cd3f49528b37198c1eb573c8c6d0654dc54e54f14557dd1cb0", checked := Try.checked }
namespace Rows
def none {H : Type} : Left H := { results := [], args := [] }

/-- 'januslaw02.MmuPlaces': WHATEVER THE INPUT: true; the input reads as it did. -/
def mmuPlacesSpec : ChangeSpec := { name := "mmuPlaces", fn := fun _ => fun
  | [d1, d2, d3] => { results := [.lit (.bool true)], args := [d1, d2, d3] }
  | _ => none }
def mmuPlacesRow : OpenClaim := { program := "ytgcbaomkoakmiaa", sum := "bdad02d054b863cd3f49528b37198c1eb573c8c6d0654dc54e54f14557dd1cb0", func := "janus/januslaw02.MmuPlaces", spec := "mmuPlaces", apart := false }
def MmuPlacesSaid : Prop := mmuPlacesRow.holds Try.pinned (OpenSpec.ofChange mmuPlacesSpec)

/-- ITS FALSE NEIGHBOUR: 'it returns false'. Refute it at one input. -/
def mmuPlacesWrong : ChangeSpec := { name := "mmuPlaces", fn := fun _ => fun
  | [d1, d2, d3] => { results := [.lit (.bool false)], args := [d1, d2, d3] }
  | _ => none }
def MmuPlacesWrongFalsely : Prop := mmuPlacesRow.holds Try.pinned (OpenSpec.ofChange mmuPlacesWrong)

/-- 'januslaw02.MmuFresh': WHATEVER THE INPUT: true; the input reads as it did. -/
def mmuFreshSpec : ChangeSpec := { name := "mmuFresh", fn := fun _ => fun
  | [d] => { results := [.lit (.bool true)], args := [d] }
  | _ => none }
def mmuFreshRow : OpenClaim := { program := "ytgcbaomkoakmiaa", sum := "bdad02d054b863cd3f49528b37198c1eb573c8c6d0654dc54e54f14557dd1cb0", func := "janus/januslaw02.MmuFresh", spec := "mmuFresh", apart := false }
def MmuFreshSaid : Prop := mmuFreshRow.holds Try.pinned (OpenSpec.ofChange mmuFreshSpec)

/-- ITS FALSE NEIGHBOUR: 'it returns false'. Refute it at one input. -/
def mmuFreshWrong : ChangeSpec := { name := "mmuFresh", fn := fun _ => fun
  | [d] => { results := [.lit (.bool false)], args := [d] }
  | _ => none }
def MmuFreshWrongFalsely : Prop := mmuFreshRow.holds Try.pinned (OpenSpec.ofChange mmuFreshWrong)

/-- 'januslaw02.MmuPlays': WHATEVER THE INPUT: true; the input reads as it did. -/
def mmuPlaysSpec : ChangeSpec := { name := "mmuPlays", fn := fun _ => fun
  | [d] => { results := [.lit (.bool true)], args := [d] }
  | _ => none }
def mmuPlaysRow : OpenClaim := { program := "ytgcbaomkoakmiaa", sum := "bdad02d054b863cd3f49528b37198c1eb573c8c6d0654dc54e54f14557dd1cb0", func := "janus/januslaw02.MmuPlays", spec := "mmuPlays", apart := false }
def MmuPlaysSaid : Prop := mmuPlaysRow.holds Try.pinned (OpenSpec.ofChange mmuPlaysSpec)

/-- ITS FALSE NEIGHBOUR: 'it returns false'. Refute it at one input. -/
def mmuPlaysWrong : ChangeSpec := { name := "mmuPlays", fn := fun _ => fun
  | [d] => { results := [.lit (.bool false)], args := [d] }
  | _ => none }
def MmuPlaysWrongFalsely : Prop := mmuPlaysRow.holds Try.pinned (OpenSpec.ofChange mmuPlaysWrong)

/-- 'januslaw02.MmuNone': WHATEVER THE INPUT: true; the input reads as it did. -/
def mmuNoneSpec : ChangeSpec := { name := "mmuNone", fn := fun _ => fun
  | [d] => { results := [.lit (.bool true)], args := [d] }
  | _ => none }
def mmuNoneRow : OpenClaim := { program := "ytgcbaomkoakmiaa", sum := "bdad02d054b863cd3f49528b37198c1eb573c8c6d0654dc54e54f14557dd1cb0", func := "janus/januslaw02.MmuNone", spec := "mmuNone", apart := false }
def MmuNoneSaid : Prop := mmuNoneRow.holds Try.pinned (OpenSpec.ofChange mmuNoneSpec)

/-- ITS FALSE NEIGHBOUR: 'it returns false'. Refute it at one input. -/
def mmuNoneWrong : ChangeSpec := { name := "mmuNone", fn := fun _ => fun
  | [d] => { results := [.lit (.bool false)], args := [d] }
  | _ => none }
def MmuNoneWrongFalsely : Prop := mmuNoneRow.holds Try.pinned (OpenSpec.ofChange mmuNoneWrong)

/- THE SECOND FORM. 'bulk': how many values and letters a reading holds, each counted each time it is reached (what is shared counts as often as it is met; a slice's spare places count too). A statement '..UptoSaid' is the law's where the arguments, and the package variables that the reading takes, are together of bulk at most 1048576: NARROWER than '..Said'. Prove '..Said' where nothing that the law and all that it calls make is longer than what came in: it says more and counts as full. Else prove '..UptoSaid'. A law counts once. -/
mutual
def uptoBulk {H : Type} : DataW H → Nat
  | .lit (.string bytes) => bytes.length + 1
  | .lit _ => 1
  | .nil => 1
  | .ptr d => uptoBulk d + 1
  | .slice elems spare => uptoBulkAll elems + uptoBulkAll spare + 1
  | .agg parts => uptoBulkAll parts + 1
  | .iface _ d => uptoBulk d + 1
  | .map entries => uptoBulkEntries entries + 1
  | .held _ => 1
def uptoBulkAll {H : Type} : List (DataW H) → Nat
  | [] => 0
  | d :: r => uptoBulk d + uptoBulkAll r
def uptoBulkEntries {H : Type} : List (Lit × DataW H) → Nat
  | [] => 0
  | x :: r => uptoBulkEntry x + uptoBulkEntries r
def uptoBulkEntry {H : Type} : Lit × DataW H → Nat
  | (.string bytes, d) => bytes.length + uptoBulk d + 1
  | (_, d) => uptoBulk d + 1
 end
def uptoSmall : (H : Type) → List (DataW H) → Bool := fun _ ds => decide (uptoBulkAll ds ≤ 1048576)
def OpenSpec.upto (s : _root_.Go.ChangeSpec) : _root_.Go.OpenSpec := { _root_.Go.OpenSpec.ofChange s with cond := some uptoSmall }

/-- 'januslaw02.MmuPlaces', WHERE WHAT IT READS IS OF BULK AT MOST 1048576: true; the input reads as it did. -/
def mmuPlacesUptoRow : OpenClaim := { program := "ytgcbaomkoakmiaa", sum := "bdad02d054b863cd3f49528b37198c1eb573c8c6d0654dc54e54f14557dd1cb0", func := "janus/januslaw02.MmuPlaces", spec := "mmuPlaces", apart := false, narrowed := true }
def MmuPlacesUptoSaid : Prop := mmuPlacesUptoRow.holds Try.pinned (OpenSpec.upto mmuPlacesSpec)

/-- 'januslaw02.MmuFresh', WHERE WHAT IT READS IS OF BULK AT MOST 1048576: true; the input reads as it did. -/
def mmuFreshUptoRow : OpenClaim := { program := "ytgcbaomkoakmiaa", sum := "bdad02d054b863cd3f49528b37198c1eb573c8c6d0654dc54e54f14557dd1cb0", func := "janus/januslaw02.MmuFresh", spec := "mmuFresh", apart := false, narrowed := true }
def MmuFreshUptoSaid : Prop := mmuFreshUptoRow.holds Try.pinned (OpenSpec.upto mmuFreshSpec)

/-- 'januslaw02.MmuPlays', WHERE WHAT IT READS IS OF BULK AT MOST 1048576: true; the input reads as it did. -/
def mmuPlaysUptoRow : OpenClaim := { program := "ytgcbaomkoakmiaa", sum := "bdad02d054b863cd3f49528b37198c1eb573c8c6d0654dc54e54f14557dd1cb0", func := "janus/januslaw02.MmuPlays", spec := "mmuPlays", apart := false, narrowed := true }
def MmuPlaysUptoSaid : Prop := mmuPlaysUptoRow.holds Try.pinned (OpenSpec.upto mmuPlaysSpec)

/-- 'januslaw02.MmuNone', WHERE WHAT IT READS IS OF BULK AT MOST 1048576: true; the input reads as it did. -/
def mmuNoneUptoRow : OpenClaim := { program := "ytgcbaomkoakmiaa", sum := "bdad02d054b863cd3f49528b37198c1eb573c8c6d0654dc54e54f14557dd1cb0", func := "janus/januslaw02.MmuNone", spec := "mmuNone", apart := false, narrowed := true }
def MmuNoneUptoSaid : Prop := mmuNoneUptoRow.holds Try.pinned (OpenSpec.upto mmuNoneSpec)

end Rows
end Go.Proofs.Ytgcbaomkoakmiaa

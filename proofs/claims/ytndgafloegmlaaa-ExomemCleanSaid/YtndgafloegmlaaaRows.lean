/-
  No cell of these rows narrows 'for every input' (looked for: loops, veiled, ifaces, maps, wideKeys, modest, calm, conditions, laid).
  DERIVED. THE GIVEN ROWS OF THIS SEAT. 4 by the template 'for every input the law returns true; each argument reads behind the call as it read before'; 0 by the template 'total and deterministic' (their statements: YtndgafloegmlaaaTotals.lean).
  GIVEN WITH THE SEED: the statements are not yours to turn. If you find one false, say at which input.
  Laid BY PROGRAM, IN A SANDBOX (cutbox-rows.mjs): the forced cells as the released guide's own fill.sh prints them over the translation 4604462ab501da2e… (all of the seat's roots in one cut). By AI agents, Wed Nov 11 2026. No macro, syntax, notation, axiom, sorry.
-/
import Derived.Test.YtndgafloegmlaaaChecked
import GoSem.Claim
import GoSem.ClaimJoined
import GoSem.ClaimMapViews
import Derived.JoinedTies
import Derived.KernelRfl
namespace Go.Proofs.Ytndgafloegmlaaa
/- THE CELL 'sum', in the pinned program and in every row, IS THE sha256 OF THE DUMP (.gsa) THAT YtndgafloegmlaaaProg.lean LOADS. Nothing in Lean hashes anything: it is a label: what it is worth is what the hold of that sum in a sandbox is worth. -/
noncomputable def Try.pinned : Pinned := { name := "ytndgafloegmlaaa", sum := "4604462ab501da2ee413db5053979eac289a7288166a27053c1c32d70fafbede", checked := Try.checked }
namespace Rows
def none {H : Type} : Left H := { results := [], args := [] }

/-- 'januslaw09.ExomemShares': WHATEVER THE INPUT: true; the input reads as it did. -/
def exomemSharesSpec : ChangeSpec := { name := "exomemShares", fn := fun _ => fun
  | [d1, d2, d3] => { results := [.lit (.bool true)], args := [d1, d2, d3] }
  | _ => none }
def exomemSharesRow : OpenClaim := { program := "ytndgafloegmlaaa", sum := "4604462ab501da2ee413db5053979eac289a7288166a27053c1c32d70fafbede", func := "janus/januslaw09.ExomemShares", spec := "exomemShares", unfollowed := true, recurses := true, apart := false }
def ExomemSharesSaid : Prop := exomemSharesRow.holds Try.pinned (OpenSpec.ofChange exomemSharesSpec)

/-- ITS FALSE NEIGHBOUR: 'it returns false'. Refute it at one input. -/
def exomemSharesWrong : ChangeSpec := { name := "exomemShares", fn := fun _ => fun
  | [d1, d2, d3] => { results := [.lit (.bool false)], args := [d1, d2, d3] }
  | _ => none }
def ExomemSharesWrongFalsely : Prop := exomemSharesRow.holds Try.pinned (OpenSpec.ofChange exomemSharesWrong)

/-- 'januslaw09.ExomemGuards': WHATEVER THE INPUT: true; the input reads as it did. -/
def exomemGuardsSpec : ChangeSpec := { name := "exomemGuards", fn := fun _ => fun
  | [d1, d2] => { results := [.lit (.bool true)], args := [d1, d2] }
  | _ => none }
def exomemGuardsRow : OpenClaim := { program := "ytndgafloegmlaaa", sum := "4604462ab501da2ee413db5053979eac289a7288166a27053c1c32d70fafbede", func := "janus/januslaw09.ExomemGuards", spec := "exomemGuards", unfollowed := true, recurses := true, apart := false }
def ExomemGuardsSaid : Prop := exomemGuardsRow.holds Try.pinned (OpenSpec.ofChange exomemGuardsSpec)

/-- ITS FALSE NEIGHBOUR: 'it returns false'. Refute it at one input. -/
def exomemGuardsWrong : ChangeSpec := { name := "exomemGuards", fn := fun _ => fun
  | [d1, d2] => { results := [.lit (.bool false)], args := [d1, d2] }
  | _ => none }
def ExomemGuardsWrongFalsely : Prop := exomemGuardsRow.holds Try.pinned (OpenSpec.ofChange exomemGuardsWrong)

/-- 'januslaw09.ExomemClean': WHATEVER THE INPUT: true; the input reads as it did. -/
def exomemCleanSpec : ChangeSpec := { name := "exomemClean", fn := fun _ => fun
  | [d] => { results := [.lit (.bool true)], args := [d] }
  | _ => none }
def exomemCleanRow : OpenClaim := { program := "ytndgafloegmlaaa", sum := "4604462ab501da2ee413db5053979eac289a7288166a27053c1c32d70fafbede", func := "janus/januslaw09.ExomemClean", spec := "exomemClean", unfollowed := true, recurses := true, apart := false }
def ExomemCleanSaid : Prop := exomemCleanRow.holds Try.pinned (OpenSpec.ofChange exomemCleanSpec)

/-- ITS FALSE NEIGHBOUR: 'it returns false'. Refute it at one input. -/
def exomemCleanWrong : ChangeSpec := { name := "exomemClean", fn := fun _ => fun
  | [d] => { results := [.lit (.bool false)], args := [d] }
  | _ => none }
def ExomemCleanWrongFalsely : Prop := exomemCleanRow.holds Try.pinned (OpenSpec.ofChange exomemCleanWrong)

/-- 'januslaw09.ExomemNone': WHATEVER THE INPUT: true; the input reads as it did. -/
def exomemNoneSpec : ChangeSpec := { name := "exomemNone", fn := fun _ => fun
  | [d] => { results := [.lit (.bool true)], args := [d] }
  | _ => none }
def exomemNoneRow : OpenClaim := { program := "ytndgafloegmlaaa", sum := "4604462ab501da2ee413db5053979eac289a7288166a27053c1c32d70fafbede", func := "janus/januslaw09.ExomemNone", spec := "exomemNone", unfollowed := true, recurses := true, apart := false }
def ExomemNoneSaid : Prop := exomemNoneRow.holds Try.pinned (OpenSpec.ofChange exomemNoneSpec)

/-- ITS FALSE NEIGHBOUR: 'it returns false'. Refute it at one input. -/
def exomemNoneWrong : ChangeSpec := { name := "exomemNone", fn := fun _ => fun
  | [d] => { results := [.lit (.bool false)], args := [d] }
  | _ => none }
def ExomemNoneWrongFalsely : Prop := exomemNoneRow.holds Try.pinned (OpenSpec.ofChange exomemNoneWrong)

/- THE SECOND FORM. 'bulk': how many values and letters a reading holds, each counted each time it is reached (what is shared counts as often as it is met; a slice's spare places count too). A statement '..UptoSaid' is the law's where the arguments, and the package variables that the reading takes, are together of bulk at most 1048576: NARROWER than '..Said'. Prove '..Said' where nothing that the law and all that it calls make is longer than what came in: it says more and counts as full. Else prove '..UptoSaid'. A law counts once. -/
mutual
def uptoBulk {H : Type} : DataW H → Nat
  | .lit (.string bytes) => bytes.length + 1
  | .lit _ => 1
  | .nil => 1
  | .ptr d => uptoBulk d + 1
  | .slice elems spare => uptoBulkAll elems + uptoBulkAll spare + 1
  | .agg parts => uptoBulkAll parts + 1
  | .iface _ d => uptoBulk d + 1
  | .map entries => uptoBulkEntries entries + 1
  | .held _ => 1
def uptoBulkAll {H : Type} : List (DataW H) → Nat
  | [] => 0
  | d :: r => uptoBulk d + uptoBulkAll r
def uptoBulkEntries {H : Type} : List (Lit × DataW H) → Nat
  | [] => 0
  | x :: r => uptoBulkEntry x + uptoBulkEntries r
def uptoBulkEntry {H : Type} : Lit × DataW H → Nat
  | (.string bytes, d) => bytes.length + uptoBulk d + 1
  | (_, d) => uptoBulk d + 1
 end
def uptoSmall : (H : Type) → List (DataW H) → Bool := fun _ ds => decide (uptoBulkAll ds ≤ 1048576)
def OpenSpec.upto (s : _root_.Go.ChangeSpec) : _root_.Go.OpenSpec := { _root_.Go.OpenSpec.ofChange s with cond := some uptoSmall }

/-- 'januslaw09.ExomemShares', WHERE WHAT IT READS IS OF BULK AT MOST 1048576: true; the input reads as it did. -/
def exomemSharesUptoRow : OpenClaim := { program := "ytndgafloegmlaaa", sum := "4604462ab501da2ee413db5053979eac289a7288166a27053c1c32d70fafbede", func := "janus/januslaw09.ExomemShares", spec := "exomemShares", unfollowed := true, recurses := true, apart := false, narrowed := true }
def ExomemSharesUptoSaid : Prop := exomemSharesUptoRow.holds Try.pinned (OpenSpec.upto exomemSharesSpec)

/-- 'januslaw09.ExomemGuards', WHERE WHAT IT READS IS OF BULK AT MOST 1048576: true; the input reads as it did. -/
def exomemGuardsUptoRow : OpenClaim := { program := "ytndgafloegmlaaa", sum := "4604462ab501da2ee413db5053979eac289a7288166a27053c1c32d70fafbede", func := "janus/januslaw09.ExomemGuards", spec := "exomemGuards", unfollowed := true, recurses := true, apart := false, narrowed := true }
def ExomemGuardsUptoSaid : Prop := exomemGuardsUptoRow.holds Try.pinned (OpenSpec.upto exomemGuardsSpec)

/-- 'januslaw09.ExomemClean', WHERE WHAT IT READS IS OF BULK AT MOST 1048576: true; the input reads as it did. -/
def exomemCleanUptoRow : OpenClaim := { program := "ytndgafloegmlaaa", sum := "4604462ab501da2ee413db5053979eac289a7288166a27053c1c32d70fafbede", func := "janus/januslaw09.ExomemClean", spec := "exomemClean", unfollowed := true, recurses := true, apart := false, narrowed := true }
def ExomemCleanUptoSaid : Prop := exomemCleanUptoRow.holds Try.pinned (OpenSpec.upto exomemCleanSpec)

/-- 'januslaw09.ExomemNone', WHERE WHAT IT READS IS OF BULK AT MOST 1048576: true; the input reads as it did. -/
def exomemNoneUptoRow : OpenClaim := { program := "ytndgafloegmlaaa", sum := "4604462ab501da2ee413db5053979eac289a7288166a27053c1c32d70fafbede", func := "janus/januslaw09.ExomemNone", spec := "exomemNone", unfollowed := true, recurses := true, apart := false, narrowed := true }
def ExomemNoneUptoSaid : Prop := exomemNoneUptoRow.holds Try.pinned (OpenSpec.upto exomemNoneSpec)

end Rows
end Go.Proofs.Ytndgafloegmlaaa

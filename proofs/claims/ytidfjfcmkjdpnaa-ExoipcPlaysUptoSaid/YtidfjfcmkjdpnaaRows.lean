/-
  No cell of these rows narrows 'for every input' (looked for: loops, veiled, ifaces, maps, wideKeys, modest, calm, conditions, laid).
  DERIVED. THE GIVEN ROWS OF THIS SEAT. 5 by the template 'for every input the law returns true; each argument reads behind the call as it read before'; 0 by the template 'total and deterministic' (their statements: YtidfjfcmkjdpnaaTotals.lean).
  GIVEN WITH THE SEED: the statements are not yours to turn. If you find one false, say at which input.
  Laid BY PROGRAM, IN A SANDBOX (cutbox-rows.mjs): the forced cells as the released guide's own fill.sh prints them over the translation 41bd218bfe3fb43f… (all of the seat's roots in one cut). By AI agents, Wed Nov 11 2026. No macro, syntax, notation, axiom, sorry.
-/
import Derived.Test.YtidfjfcmkjdpnaaChecked
import GoSem.Claim
import GoSem.ClaimJoined
import GoSem.ClaimMapViews
import Derived.JoinedTies
import Derived.KernelRfl
namespace Go.Proofs.Ytidfjfcmkjdpnaa
/- THE CELL 'sum', in the pinned program and in every row, IS THE sha256 OF THE DUMP (.gsa) THAT YtidfjfcmkjdpnaaProg.lean LOADS. Nothing in Lean hashes anything: it is a label: what it is worth is what the hold of that sum in a sandbox is worth. -/
noncomputable def Try.pinned : Pinned := { name := "ytidfjfcmkjdpnaa", sum := "41bd218bfe3fb43faf461a5e08d07a3e5dfd193dd65381c6af0b409a6d78ce22", checked := Try.checked }
namespace Rows
def none {H : Type} : Left H := { results := [], args := [] }

/-- 'januslaw11.ExoipcOrder': WHATEVER THE INPUT: true; the input reads as it did. -/
def exoipcOrderSpec : ChangeSpec := { name := "exoipcOrder", fn := fun _ => fun
  | [d1, d2] => { results := [.lit (.bool true)], args := [d1, d2] }
  | _ => none }
def exoipcOrderRow : OpenClaim := { program := "ytidfjfcmkjdpnaa", sum := "41bd218bfe3fb43faf461a5e08d07a3e5dfd193dd65381c6af0b409a6d78ce22", func := "janus/januslaw11.ExoipcOrder", spec := "exoipcOrder", apart := false }
def ExoipcOrderSaid : Prop := exoipcOrderRow.holds Try.pinned (OpenSpec.ofChange exoipcOrderSpec)

/-- ITS FALSE NEIGHBOUR: 'it returns false'. Refute it at one input. -/
def exoipcOrderWrong : ChangeSpec := { name := "exoipcOrder", fn := fun _ => fun
  | [d1, d2] => { results := [.lit (.bool false)], args := [d1, d2] }
  | _ => none }
def ExoipcOrderWrongFalsely : Prop := exoipcOrderRow.holds Try.pinned (OpenSpec.ofChange exoipcOrderWrong)

/-- 'januslaw11.ExoipcApart': WHATEVER THE INPUT: true; the input reads as it did. -/
def exoipcApartSpec : ChangeSpec := { name := "exoipcApart", fn := fun _ => fun
  | [d] => { results := [.lit (.bool true)], args := [d] }
  | _ => none }
def exoipcApartRow : OpenClaim := { program := "ytidfjfcmkjdpnaa", sum := "41bd218bfe3fb43faf461a5e08d07a3e5dfd193dd65381c6af0b409a6d78ce22", func := "janus/januslaw11.ExoipcApart", spec := "exoipcApart", apart := false }
def ExoipcApartSaid : Prop := exoipcApartRow.holds Try.pinned (OpenSpec.ofChange exoipcApartSpec)

/-- ITS FALSE NEIGHBOUR: 'it returns false'. Refute it at one input. -/
def exoipcApartWrong : ChangeSpec := { name := "exoipcApart", fn := fun _ => fun
  | [d] => { results := [.lit (.bool false)], args := [d] }
  | _ => none }
def ExoipcApartWrongFalsely : Prop := exoipcApartRow.holds Try.pinned (OpenSpec.ofChange exoipcApartWrong)

/-- 'januslaw11.ExoipcPlays': WHATEVER THE INPUT: true; the input reads as it did. -/
def exoipcPlaysSpec : ChangeSpec := { name := "exoipcPlays", fn := fun _ => fun
  | [d] => { results := [.lit (.bool true)], args := [d] }
  | _ => none }
def exoipcPlaysRow : OpenClaim := { program := "ytidfjfcmkjdpnaa", sum := "41bd218bfe3fb43faf461a5e08d07a3e5dfd193dd65381c6af0b409a6d78ce22", func := "janus/januslaw11.ExoipcPlays", spec := "exoipcPlays", unfollowed := true, recurses := true, apart := false }
def ExoipcPlaysSaid : Prop := exoipcPlaysRow.holds Try.pinned (OpenSpec.ofChange exoipcPlaysSpec)

/-- ITS FALSE NEIGHBOUR: 'it returns false'. Refute it at one input. -/
def exoipcPlaysWrong : ChangeSpec := { name := "exoipcPlays", fn := fun _ => fun
  | [d] => { results := [.lit (.bool false)], args := [d] }
  | _ => none }
def ExoipcPlaysWrongFalsely : Prop := exoipcPlaysRow.holds Try.pinned (OpenSpec.ofChange exoipcPlaysWrong)

/-- 'januslaw11.ExoipcGone': WHATEVER THE INPUT: true; the input reads as it did. -/
def exoipcGoneSpec : ChangeSpec := { name := "exoipcGone", fn := fun _ => fun
  | [d1, d2] => { results := [.lit (.bool true)], args := [d1, d2] }
  | _ => none }
def exoipcGoneRow : OpenClaim := { program := "ytidfjfcmkjdpnaa", sum := "41bd218bfe3fb43faf461a5e08d07a3e5dfd193dd65381c6af0b409a6d78ce22", func := "janus/januslaw11.ExoipcGone", spec := "exoipcGone", unfollowed := true, recurses := true, apart := false }
def ExoipcGoneSaid : Prop := exoipcGoneRow.holds Try.pinned (OpenSpec.ofChange exoipcGoneSpec)

/-- ITS FALSE NEIGHBOUR: 'it returns false'. Refute it at one input. -/
def exoipcGoneWrong : ChangeSpec := { name := "exoipcGone", fn := fun _ => fun
  | [d1, d2] => { results := [.lit (.bool false)], args := [d1, d2] }
  | _ => none }
def ExoipcGoneWrongFalsely : Prop := exoipcGoneRow.holds Try.pinned (OpenSpec.ofChange exoipcGoneWrong)

/-- 'januslaw11.ExoipcNone': WHATEVER THE INPUT: true; the input reads as it did. -/
def exoipcNoneSpec : ChangeSpec := { name := "exoipcNone", fn := fun _ => fun
  | [d] => { results := [.lit (.bool true)], args := [d] }
  | _ => none }
def exoipcNoneRow : OpenClaim := { program := "ytidfjfcmkjdpnaa", sum := "41bd218bfe3fb43faf461a5e08d07a3e5dfd193dd65381c6af0b409a6d78ce22", func := "janus/januslaw11.ExoipcNone", spec := "exoipcNone", unfollowed := true, recurses := true, apart := false }
def ExoipcNoneSaid : Prop := exoipcNoneRow.holds Try.pinned (OpenSpec.ofChange exoipcNoneSpec)

/-- ITS FALSE NEIGHBOUR: 'it returns false'. Refute it at one input. -/
def exoipcNoneWrong : ChangeSpec := { name := "exoipcNone", fn := fun _ => fun
  | [d] => { results := [.lit (.bool false)], args := [d] }
  | _ => none }
def ExoipcNoneWrongFalsely : Prop := exoipcNoneRow.holds Try.pinned (OpenSpec.ofChange exoipcNoneWrong)

/- THE SECOND FORM. 'bulk': how many values and letters a reading holds, each counted each time it is reached (what is shared counts as often as it is met; a slice's spare places count too). A statement '..UptoSaid' is the law's where the arguments, and the package variables that the reading takes, are together of bulk at most 1048576: NARROWER than '..Said'. Prove '..Said' where nothing that the law and all that it calls make is longer than what came in: it says more and counts as full. Else prove '..UptoSaid'. A law counts once. -/
mutual
def uptoBulk {H : Type} : DataW H → Nat
  | .lit (.string bytes) => bytes.length + 1
  | .lit _ => 1
  | .nil => 1
  | .ptr d => uptoBulk d + 1
  | .slice elems spare => uptoBulkAll elems + uptoBulkAll spare + 1
  | .agg parts => uptoBulkAll parts + 1
  | .iface _ d => uptoBulk d + 1
  | .map entries => uptoBulkEntries entries + 1
  | .held _ => 1
def uptoBulkAll {H : Type} : List (DataW H) → Nat
  | [] => 0
  | d :: r => uptoBulk d + uptoBulkAll r
def uptoBulkEntries {H : Type} : List (Lit × DataW H) → Nat
  | [] => 0
  | x :: r => uptoBulkEntry x + uptoBulkEntries r
def uptoBulkEntry {H : Type} : Lit × DataW H → Nat
  | (.string bytes, d) => bytes.length + uptoBulk d + 1
  | (_, d) => uptoBulk d + 1
 end
def uptoSmall : (H : Type) → List (DataW H) → Bool := fun _ ds => decide (uptoBulkAll ds ≤ 1048576)
def OpenSpec.upto (s : _root_.Go.ChangeSpec) : _root_.Go.OpenSpec := { _root_.Go.OpenSpec.ofChange s with cond := some uptoSmall }

/-- 'januslaw11.ExoipcOrder', WHERE WHAT IT READS IS OF BULK AT MOST 1048576: true; the input reads as it did. -/
def exoipcOrderUptoRow : OpenClaim := { program := "ytidfjfcmkjdpnaa", sum := "41bd218bfe3fb43faf461a5e08d07a3e5dfd193dd65381c6af0b409a6d78ce22", func := "janus/januslaw11.ExoipcOrder", spec := "exoipcOrder", apart := false, narrowed := true }
def ExoipcOrderUptoSaid : Prop := exoipcOrderUptoRow.holds Try.pinned (OpenSpec.upto exoipcOrderSpec)

/-- 'januslaw11.ExoipcApart', WHERE WHAT IT READS IS OF BULK AT MOST 1048576: true; the input reads as it did. -/
def exoipcApartUptoRow : OpenClaim := { program := "ytidfjfcmkjdpnaa", sum := "41bd218bfe3fb43faf461a5e08d07a3e5dfd193dd65381c6af0b409a6d78ce22", func := "janus/januslaw11.ExoipcApart", spec := "exoipcApart", apart := false, narrowed := true }
def ExoipcApartUptoSaid : Prop := exoipcApartUptoRow.holds Try.pinned (OpenSpec.upto exoipcApartSpec)

/-- 'januslaw11.ExoipcPlays', WHERE WHAT IT READS IS OF BULK AT MOST 1048576: true; the input reads as it did. -/
def exoipcPlaysUptoRow : OpenClaim := { program := "ytidfjfcmkjdpnaa", sum := "41bd218bfe3fb43faf461a5e08d07a3e5dfd193dd65381c6af0b409a6d78ce22", func := "janus/januslaw11.ExoipcPlays", spec := "exoipcPlays", unfollowed := true, recurses := true, apart := false, narrowed := true }
def ExoipcPlaysUptoSaid : Prop := exoipcPlaysUptoRow.holds Try.pinned (OpenSpec.upto exoipcPlaysSpec)

/-- 'januslaw11.ExoipcGone', WHERE WHAT IT READS IS OF BULK AT MOST 1048576: true; the input reads as it did. -/
def exoipcGoneUptoRow : OpenClaim := { program := "ytidfjfcmkjdpnaa", sum := "41bd218bfe3fb43faf461a5e08d07a3e5dfd193dd65381c6af0b409a6d78ce22", func := "janus/januslaw11.ExoipcGone", spec := "exoipcGone", unfollowed := true, recurses := true, apart := false, narrowed := true }
def ExoipcGoneUptoSaid : Prop := exoipcGoneUptoRow.holds Try.pinned (OpenSpec.upto exoipcGoneSpec)

/-- 'januslaw11.ExoipcNone', WHERE WHAT IT READS IS OF BULK AT MOST 1048576: true; the input reads as it did. -/
def exoipcNoneUptoRow : OpenClaim := { program := "ytidfjfcmkjdpnaa", sum := "41bd218bfe3fb43faf461a5e08d07a3e5dfd193dd65381c6af0b409a6d78ce22", func := "janus/januslaw11.ExoipcNone", spec := "exoipcNone", unfollowed := true, recurses := true, apart := false, narrowed := true }
def ExoipcNoneUptoSaid : Prop := exoipcNoneUptoRow.holds Try.pinned (OpenSpec.upto exoipcNoneSpec)

end Rows
end Go.Proofs.Ytidfjfcmkjdpnaa

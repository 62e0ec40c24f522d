/-
  No cell of these rows narrows 'for every input' (looked for: loops, veiled, ifaces, maps, wideKeys, modest, calm, conditions, laid).
  DERIVED. THE GIVEN ROWS OF THIS SEAT. 5 by the template 'for every input the law returns true; each argument reads behind the call as it read before'; 0 by the template 'total and deterministic' (their statements: YtkcnchnlhdhcbaaTotals.lean).
  GIVEN WITH THE SEED: the statements are not yours to turn. If you find one false, say at which input.
  Laid BY PROGRAM, IN A SANDBOX (cutbox-rows.mjs): the forced cells as the released guide's own fill.sh prints them over the translation d17af2ffd5abc61a… (all of the seat's roots in one cut). By AI agents, Wed Nov 11 2026. No macro, syntax, notation, axiom, sorry.
-/
import Derived.Test.YtkcnchnlhdhcbaaChecked
import GoSem.Claim
import GoSem.ClaimJoined
import GoSem.ClaimMapViews
import Derived.JoinedTies
import Derived.KernelRfl
namespace Go.Proofs.Ytkcnchnlhdhcbaa
/- THE CELL 'sum', in the pinned program and in every row, IS THE sha256 OF THE DUMP (.gsa) THAT YtkcnchnlhdhcbaaProg.lean LOADS. Nothing in Lean hashes anything: it is a label: what it is worth is what the hold of that sum in a sandbox is worth. -/
noncomputable def Try.pinned : Pinned := { name := "ytkcnchnlhdhcbaa", sum := "d17af2ffd5abc61a4537c83a93934d82dab39f0bce4cd67deec1d97d4388b9c3", checked := Try.checked }
namespace Rows
def none {H : Type} : Left H := { results := [], args := [] }

/-- 'januslaw08.CapsNever': WHATEVER THE INPUT: true; the input reads as it did. -/
def capsNeverSpec : ChangeSpec := { name := "capsNever", fn := fun _ => fun
  | [d1, d2] => { results := [.lit (.bool true)], args := [d1, d2] }
  | _ => none }
def capsNeverRow : OpenClaim := { program := "ytkcnchnlhdhcbaa", sum := "d17af2ffd5abc61a4537c83a93934d82dab39f0bce4cd67deec1d97d4388b9c3", func := "janus/januslaw08.CapsNever", spec := "capsNever", unfollowed := true, recurses := true, apart := false }
def CapsNeverSaid : Prop := capsNeverRow.holds Try.pinned (OpenSpec.ofChange capsNeverSpec)

/-- ITS FALSE NEIGHBOUR: 'it returns false'. Refute it at one input. -/
def capsNeverWrong : ChangeSpec := { name := "capsNever", fn := fun _ => fun
  | [d1, d2] => { results := [.lit (.bool false)], args := [d1, d2] }
  | _ => none }
def CapsNeverWrongFalsely : Prop := capsNeverRow.holds Try.pinned (OpenSpec.ofChange capsNeverWrong)

/-- 'januslaw08.CapsRoom': WHATEVER THE INPUT: true; the input reads as it did. -/
def capsRoomSpec : ChangeSpec := { name := "capsRoom", fn := fun _ => fun
  | [d] => { results := [.lit (.bool true)], args := [d] }
  | _ => none }
def capsRoomRow : OpenClaim := { program := "ytkcnchnlhdhcbaa", sum := "d17af2ffd5abc61a4537c83a93934d82dab39f0bce4cd67deec1d97d4388b9c3", func := "janus/januslaw08.CapsRoom", spec := "capsRoom", unfollowed := true, recurses := true, apart := false }
def CapsRoomSaid : Prop := capsRoomRow.holds Try.pinned (OpenSpec.ofChange capsRoomSpec)

/-- ITS FALSE NEIGHBOUR: 'it returns false'. Refute it at one input. -/
def capsRoomWrong : ChangeSpec := { name := "capsRoom", fn := fun _ => fun
  | [d] => { results := [.lit (.bool false)], args := [d] }
  | _ => none }
def CapsRoomWrongFalsely : Prop := capsRoomRow.holds Try.pinned (OpenSpec.ofChange capsRoomWrong)

/-- 'januslaw08.CapsRevokes': WHATEVER THE INPUT: true; the input reads as it did. -/
def capsRevokesSpec : ChangeSpec := { name := "capsRevokes", fn := fun _ => fun
  | [d] => { results := [.lit (.bool true)], args := [d] }
  | _ => none }
def capsRevokesRow : OpenClaim := { program := "ytkcnchnlhdhcbaa", sum := "d17af2ffd5abc61a4537c83a93934d82dab39f0bce4cd67deec1d97d4388b9c3", func := "janus/januslaw08.CapsRevokes", spec := "capsRevokes", unfollowed := true, recurses := true, apart := false }
def CapsRevokesSaid : Prop := capsRevokesRow.holds Try.pinned (OpenSpec.ofChange capsRevokesSpec)

/-- ITS FALSE NEIGHBOUR: 'it returns false'. Refute it at one input. -/
def capsRevokesWrong : ChangeSpec := { name := "capsRevokes", fn := fun _ => fun
  | [d] => { results := [.lit (.bool false)], args := [d] }
  | _ => none }
def CapsRevokesWrongFalsely : Prop := capsRevokesRow.holds Try.pinned (OpenSpec.ofChange capsRevokesWrong)

/-- 'januslaw08.CapsPlays': WHATEVER THE INPUT: true; the input reads as it did. -/
def capsPlaysSpec : ChangeSpec := { name := "capsPlays", fn := fun _ => fun
  | [d] => { results := [.lit (.bool true)], args := [d] }
  | _ => none }
def capsPlaysRow : OpenClaim := { program := "ytkcnchnlhdhcbaa", sum := "d17af2ffd5abc61a4537c83a93934d82dab39f0bce4cd67deec1d97d4388b9c3", func := "janus/januslaw08.CapsPlays", spec := "capsPlays", unfollowed := true, recurses := true, apart := false }
def CapsPlaysSaid : Prop := capsPlaysRow.holds Try.pinned (OpenSpec.ofChange capsPlaysSpec)

/-- ITS FALSE NEIGHBOUR: 'it returns false'. Refute it at one input. -/
def capsPlaysWrong : ChangeSpec := { name := "capsPlays", fn := fun _ => fun
  | [d] => { results := [.lit (.bool false)], args := [d] }
  | _ => none }
def CapsPlaysWrongFalsely : Prop := capsPlaysRow.holds Try.pinned (OpenSpec.ofChange capsPlaysWrong)

/-- 'januslaw08.CapsNone': WHATEVER THE INPUT: true; the input reads as it did. -/
def capsNoneSpec : ChangeSpec := { name := "capsNone", fn := fun _ => fun
  | [d] => { results := [.lit (.bool true)], args := [d] }
  | _ => none }
def capsNoneRow : OpenClaim := { program := "ytkcnchnlhdhcbaa", sum := "d17af2ffd5abc61a4537c83a93934d82dab39f0bce4cd67deec1d97d4388b9c3", func := "janus/januslaw08.CapsNone", spec := "capsNone", unfollowed := true, recurses := true, apart := false }
def CapsNoneSaid : Prop := capsNoneRow.holds Try.pinned (OpenSpec.ofChange capsNoneSpec)

/-- ITS FALSE NEIGHBOUR: 'it returns false'. Refute it at one input. -/
def capsNoneWrong : ChangeSpec := { name := "capsNone", fn := fun _ => fun
  | [d] => { results := [.lit (.bool false)], args := [d] }
  | _ => none }
def CapsNoneWrongFalsely : Prop := capsNoneRow.holds Try.pinned (OpenSpec.ofChange capsNoneWrong)

/- THE SECOND FORM. 'bulk': how many values and letters a reading holds, each counted each time it is reached (what is shared counts as often as it is met; a slice's spare places count too). A statement '..UptoSaid' is the law's where the arguments, and the package variables that the reading takes, are together of bulk at most 1048576: NARROWER than '..Said'. Prove '..Said' where nothing that the law and all that it calls make is longer than what came in: it says more and counts as full. Else prove '..UptoSaid'. A law counts once. -/
mutual
def uptoBulk {H : Type} : DataW H → Nat
  | .lit (.string bytes) => bytes.length + 1
  | .lit _ => 1
  | .nil => 1
  | .ptr d => uptoBulk d + 1
  | .slice elems spare => uptoBulkAll elems + uptoBulkAll spare + 1
  | .agg parts => uptoBulkAll parts + 1
  | .iface _ d => uptoBulk d + 1
  | .map entries => uptoBulkEntries entries + 1
  | .held _ => 1
def uptoBulkAll {H : Type} : List (DataW H) → Nat
  | [] => 0
  | d :: r => uptoBulk d + uptoBulkAll r
def uptoBulkEntries {H : Type} : List (Lit × DataW H) → Nat
  | [] => 0
  | x :: r => uptoBulkEntry x + uptoBulkEntries r
def uptoBulkEntry {H : Type} : Lit × DataW H → Nat
  | (.string bytes, d) => bytes.length + uptoBulk d + 1
  | (_, d) => uptoBulk d + 1
 end
def uptoSmall : (H : Type) → List (DataW H) → Bool := fun _ ds => decide (uptoBulkAll ds ≤ 1048576)
def OpenSpec.upto (s : _root_.Go.ChangeSpec) : _root_.Go.OpenSpec := { _root_.Go.OpenSpec.ofChange s with cond := some uptoSmall }

/-- 'januslaw08.CapsNever', WHERE WHAT IT READS IS OF BULK AT MOST 1048576: true; the input reads as it did. -/
def capsNeverUptoRow : OpenClaim := { program := "ytkcnchnlhdhcbaa", sum := "d17af2ffd5abc61a4537c83a93934d82dab39f0bce4cd67deec1d97d4388b9c3", func := "janus/januslaw08.CapsNever", spec := "capsNever", unfollowed := true, recurses := true, apart := false, narrowed := true }
def CapsNeverUptoSaid : Prop := capsNeverUptoRow.holds Try.pinned (OpenSpec.upto capsNeverSpec)

/-- 'januslaw08.CapsRoom', WHERE WHAT IT READS IS OF BULK AT MOST 1048576: true; the input reads as it did. -/
def capsRoomUptoRow : OpenClaim := { program := "ytkcnchnlhdhcbaa", sum := "d17af2ffd5abc61a4537c83a93934d82dab39f0bce4cd67deec1d97d4388b9c3", func := "janus/januslaw08.CapsRoom", spec := "capsRoom", unfollowed := true, recurses := true, apart := false, narrowed := true }
def CapsRoomUptoSaid : Prop := capsRoomUptoRow.holds Try.pinned (OpenSpec.upto capsRoomSpec)

/-- 'januslaw08.CapsRevokes', WHERE WHAT IT READS IS OF BULK AT MOST 1048576: true; the input reads as it did. -/
def capsRevokesUptoRow : OpenClaim := { program := "ytkcnchnlhdhcbaa", sum := "d17af2ffd5abc61a4537c83a93934d82dab39f0bce4cd67deec1d97d4388b9c3", func := "janus/januslaw08.CapsRevokes", spec := "capsRevokes", unfollowed := true, recurses := true, apart := false, narrowed := true }
def CapsRevokesUptoSaid : Prop := capsRevokesUptoRow.holds Try.pinned (OpenSpec.upto capsRevokesSpec)

/-- 'januslaw08.CapsPlays', WHERE WHAT IT READS IS OF BULK AT MOST 1048576: true; the input reads as it did. -/
def capsPlaysUptoRow : OpenClaim := { program := "ytkcnchnlhdhcbaa", sum := "d17af2ffd5abc61a4537c83a93934d82dab39f0bce4cd67deec1d97d4388b9c3", func := "janus/januslaw08.CapsPlays", spec := "capsPlays", unfollowed := true, recurses := true, apart := false, narrowed := true }
def CapsPlaysUptoSaid : Prop := capsPlaysUptoRow.holds Try.pinned (OpenSpec.upto capsPlaysSpec)

/-- 'januslaw08.CapsNone', WHERE WHAT IT READS IS OF BULK AT MOST 1048576: true; the input reads as it did. -/
def capsNoneUptoRow : OpenClaim := { program := "ytkcnchnlhdhcbaa", sum := "d17af2ffd5abc61a4537c83a93934d82dab39f0bce4cd67deec1d97d4388b9c3", func := "janus/januslaw08.CapsNone", spec := "capsNone", unfollowed := true, recurses := true, apart := false, narrowed := true }
def CapsNoneUptoSaid : Prop := capsNoneUptoRow.holds Try.pinned (OpenSpec.upto capsNoneSpec)

end Rows
end Go.Proofs.Ytkcnchnlhdhcbaa

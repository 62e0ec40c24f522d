/-
  No cell of these rows narrows 'for every input' (looked for: loops, veiled, ifaces, maps, wideKeys, modest, calm, conditions, laid).
  DERIVED. THE GIVEN ROWS OF THIS SEAT. 5 by the template 'for every input the law returns true; each argument reads behind the call as it read before'; 0 by the template 'total and deterministic' (their statements: YthpcakhhemdibaaGreatTotals.lean).
  GIVEN WITH THE SEED: the statements are not yours to turn. If you find one false, say at which input.
  Laid BY PROGRAM, IN A SANDBOX (cutbox-rows.mjs): the forced cells as the released guide's own fill.sh prints them over the translation bc6b35de4fd68459… (all of the seat's roots in one cut). By AI agents, Wed Nov 11 2026. No macro, syntax, notation, axiom, sorry.
-/
import Derived.Test.YthpcakhhemdibaaGreatChecked
import GoSem.Claim
import GoSem.ClaimJoined
import GoSem.ClaimMapViews
import Derived.JoinedTies
import Derived.KernelRfl
namespace Go.Proofs.YthpcakhhemdibaaGreat
/- THE CELL 'sum', in the pinned program and in every row, IS THE sha256 OF THE DUMP (.gsa) THAT YthpcakhhemdibaaGreatProg.lean LOADS. Nothing in Lean hashes anything: it is a label: what it is worth is what the hold of that sum in a sandbox is worth. -/
noncomputable def Tryz.pinned : Pinned := { name := "ythpcakhhemdibaagreat", sum := "bc6b35de4fd68459190eb35032a24c4aaf8bcf70fb00dbac0c74fcceb8cc2c21", checked := Tryz.checked }
namespace Rows
def none {H : Type} : Left H := { results := [], args := [] }

/-- 'januslaw13.ExoPlays': WHATEVER THE INPUT: true; the input reads as it did. -/
def exoPlaysSpec : ChangeSpec := { name := "exoPlays", fn := fun _ => fun
  | [d] => { results := [.lit (.bool true)], args := [d] }
  | _ => none }
def exoPlaysRow : OpenClaim := { program := "ythpcakhhemdibaagreat", sum := "bc6b35de4fd68459190eb35032a24c4aaf8bcf70fb00dbac0c74fcceb8cc2c21", func := "janus/januslaw13.ExoPlays", spec := "exoPlays", unfollowed := true, recurses := true, apart := false }
def ExoPlaysSaid : Prop := exoPlaysRow.holds Tryz.pinned (OpenSpec.ofChange exoPlaysSpec)

/-- ITS FALSE NEIGHBOUR: 'it returns false'. Refute it at one input. -/
def exoPlaysWrong : ChangeSpec := { name := "exoPlays", fn := fun _ => fun
  | [d] => { results := [.lit (.bool false)], args := [d] }
  | _ => none }
def ExoPlaysWrongFalsely : Prop := exoPlaysRow.holds Tryz.pinned (OpenSpec.ofChange exoPlaysWrong)

/-- 'januslaw13.ExoRefuses': WHATEVER THE INPUT: true; the input reads as it did. -/
def exoRefusesSpec : ChangeSpec := { name := "exoRefuses", fn := fun _ => fun
  | [d1, d2] => { results := [.lit (.bool true)], args := [d1, d2] }
  | _ => none }
def exoRefusesRow : OpenClaim := { program := "ythpcakhhemdibaagreat", sum := "bc6b35de4fd68459190eb35032a24c4aaf8bcf70fb00dbac0c74fcceb8cc2c21", func := "janus/januslaw13.ExoRefuses", spec := "exoRefuses", unfollowed := true, recurses := true, apart := false }
def ExoRefusesSaid : Prop := exoRefusesRow.holds Tryz.pinned (OpenSpec.ofChange exoRefusesSpec)

/-- ITS FALSE NEIGHBOUR: 'it returns false'. Refute it at one input. -/
def exoRefusesWrong : ChangeSpec := { name := "exoRefuses", fn := fun _ => fun
  | [d1, d2] => { results := [.lit (.bool false)], args := [d1, d2] }
  | _ => none }
def ExoRefusesWrongFalsely : Prop := exoRefusesRow.holds Tryz.pinned (OpenSpec.ofChange exoRefusesWrong)

/-- 'januslaw13.ExoApart': WHATEVER THE INPUT: true; the input reads as it did. -/
def exoApartSpec : ChangeSpec := { name := "exoApart", fn := fun _ => fun
  | [d1, d2] => { results := [.lit (.bool true)], args := [d1, d2] }
  | _ => none }
def exoApartRow : OpenClaim := { program := "ythpcakhhemdibaagreat", sum := "bc6b35de4fd68459190eb35032a24c4aaf8bcf70fb00dbac0c74fcceb8cc2c21", func := "janus/januslaw13.ExoApart", spec := "exoApart", unfollowed := true, recurses := true, apart := false }
def ExoApartSaid : Prop := exoApartRow.holds Tryz.pinned (OpenSpec.ofChange exoApartSpec)

/-- ITS FALSE NEIGHBOUR: 'it returns false'. Refute it at one input. -/
def exoApartWrong : ChangeSpec := { name := "exoApart", fn := fun _ => fun
  | [d1, d2] => { results := [.lit (.bool false)], args := [d1, d2] }
  | _ => none }
def ExoApartWrongFalsely : Prop := exoApartRow.holds Tryz.pinned (OpenSpec.ofChange exoApartWrong)

/-- 'januslaw13.ExoWrites': WHATEVER THE INPUT: true; the input reads as it did. -/
def exoWritesSpec : ChangeSpec := { name := "exoWrites", fn := fun _ => fun
  | [d1, d2] => { results := [.lit (.bool true)], args := [d1, d2] }
  | _ => none }
def exoWritesRow : OpenClaim := { program := "ythpcakhhemdibaagreat", sum := "bc6b35de4fd68459190eb35032a24c4aaf8bcf70fb00dbac0c74fcceb8cc2c21", func := "janus/januslaw13.ExoWrites", spec := "exoWrites", unfollowed := true, recurses := true, apart := false }
def ExoWritesSaid : Prop := exoWritesRow.holds Tryz.pinned (OpenSpec.ofChange exoWritesSpec)

/-- ITS FALSE NEIGHBOUR: 'it returns false'. Refute it at one input. -/
def exoWritesWrong : ChangeSpec := { name := "exoWrites", fn := fun _ => fun
  | [d1, d2] => { results := [.lit (.bool false)], args := [d1, d2] }
  | _ => none }
def ExoWritesWrongFalsely : Prop := exoWritesRow.holds Tryz.pinned (OpenSpec.ofChange exoWritesWrong)

/-- 'januslaw13.ExoNone': WHATEVER THE INPUT: true; the input reads as it did. -/
def exoNoneSpec : ChangeSpec := { name := "exoNone", fn := fun _ => fun
  | [d] => { results := [.lit (.bool true)], args := [d] }
  | _ => none }
def exoNoneRow : OpenClaim := { program := "ythpcakhhemdibaagreat", sum := "bc6b35de4fd68459190eb35032a24c4aaf8bcf70fb00dbac0c74fcceb8cc2c21", func := "janus/januslaw13.ExoNone", spec := "exoNone", unfollowed := true, recurses := true, apart := false }
def ExoNoneSaid : Prop := exoNoneRow.holds Tryz.pinned (OpenSpec.ofChange exoNoneSpec)

/-- ITS FALSE NEIGHBOUR: 'it returns false'. Refute it at one input. -/
def exoNoneWrong : ChangeSpec := { name := "exoNone", fn := fun _ => fun
  | [d] => { results := [.lit (.bool false)], args := [d] }
  | _ => none }
def ExoNoneWrongFalsely : Prop := exoNoneRow.holds Tryz.pinned (OpenSpec.ofChange exoNoneWrong)

/- THE SECOND FORM. 'bulk': how many values and letters a reading holds, each counted each time it is reached (what is shared counts as often as it is met; a slice's spare places count too). A statement '..UptoSaid' is the law's where the arguments, and the package variables that the reading takes, are together of bulk at most 1048576: NARROWER than '..Said'. Prove '..Said' where nothing that the law and all that it calls make is longer than what came in: it says more and counts as full. Else prove '..UptoSaid'. A law counts once. -/
mutual
def uptoBulk {H : Type} : DataW H → Nat
  | .lit (.string bytes) => bytes.length + 1
  | .lit _ => 1
  | .nil => 1
  | .ptr d => uptoBulk d + 1
  | .slice elems spare => uptoBulkAll elems + uptoBulkAll spare + 1
  | .agg parts => uptoBulkAll parts + 1
  | .iface _ d => uptoBulk d + 1
  | .map entries => uptoBulkEntries entries + 1
  | .held _ => 1
def uptoBulkAll {H : Type} : List (DataW H) → Nat
  | [] => 0
  | d :: r => uptoBulk d + uptoBulkAll r
def uptoBulkEntries {H : Type} : List (Lit × DataW H) → Nat
  | [] => 0
  | x :: r => uptoBulkEntry x + uptoBulkEntries r
def uptoBulkEntry {H : Type} : Lit × DataW H → Nat
  | (.string bytes, d) => bytes.length + uptoBulk d + 1
  | (_, d) => uptoBulk d + 1
 end
def uptoSmall : (H : Type) → List (DataW H) → Bool := fun _ ds => decide (uptoBulkAll ds ≤ 1048576)
def OpenSpec.upto (s : _root_.Go.ChangeSpec) : _root_.Go.OpenSpec := { _root_.Go.OpenSpec.ofChange s with cond := some uptoSmall }

/-- 'januslaw13.ExoPlays', WHERE WHAT IT READS IS OF BULK AT MOST 1048576: true; the input reads as it did. -/
def exoPlaysUptoRow : OpenClaim := { program := "ythpcakhhemdibaagreat", sum := "bc6b35de4fd68459190eb35032a24c4aaf8bcf70fb00dbac0c74fcceb8cc2c21", func := "janus/januslaw13.ExoPlays", spec := "exoPlays", unfollowed := true, recurses := true, apart := false, narrowed := true }
def ExoPlaysUptoSaid : Prop := exoPlaysUptoRow.holds Tryz.pinned (OpenSpec.upto exoPlaysSpec)

/-- 'januslaw13.ExoRefuses', WHERE WHAT IT READS IS OF BULK AT MOST 1048576: true; the input reads as it did. -/
def exoRefusesUptoRow : OpenClaim := { program := "ythpcakhhemdibaagreat", sum := "bc6b35de4fd68459190eb35032a24c4aaf8bcf70fb00dbac0c74fcceb8cc2c21", func := "janus/januslaw13.ExoRefuses", spec := "exoRefuses", unfollowed := true, recurses := true, apart := false, narrowed := true }
def ExoRefusesUptoSaid : Prop := exoRefusesUptoRow.holds Tryz.pinned (OpenSpec.upto exoRefusesSpec)

/-- 'januslaw13.ExoApart', WHERE WHAT IT READS IS OF BULK AT MOST 1048576: true; the input reads as it did. -/
def exoApartUptoRow : OpenClaim := { program := "ythpcakhhemdibaagreat", sum := "bc6b35de4fd68459190eb35032a24c4aaf8bcf70fb00dbac0c74fcceb8cc2c21", func := "janus/januslaw13.ExoApart", spec := "exoApart", unfollowed := true, recurses := true, apart := false, narrowed := true }
def ExoApartUptoSaid : Prop := exoApartUptoRow.holds Tryz.pinned (OpenSpec.upto exoApartSpec)

/-- 'januslaw13.ExoWrites', WHERE WHAT IT READS IS OF BULK AT MOST 1048576: true; the input reads as it did. -/
def exoWritesUptoRow : OpenClaim := { program := "ythpcakhhemdibaagreat", sum := "bc6b35de4fd68459190eb35032a24c4aaf8bcf70fb00dbac0c74fcceb8cc2c21", func := "janus/januslaw13.ExoWrites", spec := "exoWrites", unfollowed := true, recurses := true, apart := false, narrowed := true }
def ExoWritesUptoSaid : Prop := exoWritesUptoRow.holds Tryz.pinned (OpenSpec.upto exoWritesSpec)

/-- 'januslaw13.ExoNone', WHERE WHAT IT READS IS OF BULK AT MOST 1048576: true; the input reads as it did. -/
def exoNoneUptoRow : OpenClaim := { program := "ythpcakhhemdibaagreat", sum := "bc6b35de4fd68459190eb35032a24c4aaf8bcf70fb00dbac0c74fcceb8cc2c21", func := "janus/januslaw13.ExoNone", spec := "exoNone", unfollowed := true, recurses := true, apart := false, narrowed := true }
def ExoNoneUptoSaid : Prop := exoNoneUptoRow.holds Tryz.pinned (OpenSpec.upto exoNoneSpec)

end Rows
end Go.Proofs.YthpcakhhemdibaaGreat

/-
  No cell of these rows narrows 'for every input' (looked for: loops, veiled, ifaces, maps, wideKeys, modest, calm, conditions, laid).
  DERIVED. THE GIVEN ROWS OF THIS SEAT. 5 by the template 'for every input the law returns true; each argument reads behind the call as it read before'; 0 by the template 'total and deterministic' (their statements: YtfiamglndglbeaaTotals.lean).
  GIVEN WITH THE SEED: the statements are not yours to turn. If you find one false, say at which input.
  Laid BY PROGRAM, IN A SANDBOX (cutbox-rows.mjs): the forced cells as the released guide's own fill.sh prints them over the translation 0f7bd3e91837f8f9… (all of the seat's roots in one cut). By AI agents, Wed Nov 11 2026. No macro, syntax, notation, axiom, sorry.
-/
import Derived.Test.YtfiamglndglbeaaChecked
import GoSem.Claim
import GoSem.ClaimJoined
import GoSem.ClaimMapViews
import Derived.JoinedTies
import Derived.KernelRfl
namespace Go.Proofs.Ytfiamglndglbeaa
/- THE CELL 'sum', in the pinned program and in every row, IS THE sha256 OF THE DUMP (.gsa) THAT YtfiamglndglbeaaProg.lean LOADS. Nothing in Lean hashes anything: it is a label: what it is worth is what the hold of that sum in a sandbox is worth. -/
noncomputable def Try.pinned : Pinned := { name := "ytfiamglndglbeaa", sum := "0f7bd3e91837f8f9bc6190c46a2beba5e62029e0a13bacbb851240f2e23b52db", checked := Try.checked }
namespace Rows
def none {H : Type} : Left H := { results := [], args := [] }

/-- 'januslaw04.DeviceConsoles': WHATEVER THE INPUT: true; the input reads as it did. -/
def deviceConsolesSpec : ChangeSpec := { name := "deviceConsoles", fn := fun _ => fun
  | [d1, d2] => { results := [.lit (.bool true)], args := [d1, d2] }
  | _ => none }
def deviceConsolesRow : OpenClaim := { program := "ytfiamglndglbeaa", sum := "0f7bd3e91837f8f9bc6190c46a2beba5e62029e0a13bacbb851240f2e23b52db", func := "janus/januslaw04.DeviceConsoles", spec := "deviceConsoles", apart := false }
def DeviceConsolesSaid : Prop := deviceConsolesRow.holds Try.pinned (OpenSpec.ofChange deviceConsolesSpec)

/-- ITS FALSE NEIGHBOUR: 'it returns false'. Refute it at one input. -/
def deviceConsolesWrong : ChangeSpec := { name := "deviceConsoles", fn := fun _ => fun
  | [d1, d2] => { results := [.lit (.bool false)], args := [d1, d2] }
  | _ => none }
def DeviceConsolesWrongFalsely : Prop := deviceConsolesRow.holds Try.pinned (OpenSpec.ofChange deviceConsolesWrong)

/-- 'januslaw04.DeviceOnce': WHATEVER THE INPUT: true; the input reads as it did. -/
def deviceOnceSpec : ChangeSpec := { name := "deviceOnce", fn := fun _ => fun
  | [d] => { results := [.lit (.bool true)], args := [d] }
  | _ => none }
def deviceOnceRow : OpenClaim := { program := "ytfiamglndglbeaa", sum := "0f7bd3e91837f8f9bc6190c46a2beba5e62029e0a13bacbb851240f2e23b52db", func := "janus/januslaw04.DeviceOnce", spec := "deviceOnce", apart := false }
def DeviceOnceSaid : Prop := deviceOnceRow.holds Try.pinned (OpenSpec.ofChange deviceOnceSpec)

/-- ITS FALSE NEIGHBOUR: 'it returns false'. Refute it at one input. -/
def deviceOnceWrong : ChangeSpec := { name := "deviceOnce", fn := fun _ => fun
  | [d] => { results := [.lit (.bool false)], args := [d] }
  | _ => none }
def DeviceOnceWrongFalsely : Prop := deviceOnceRow.holds Try.pinned (OpenSpec.ofChange deviceOnceWrong)

/-- 'januslaw04.DeviceReads': WHATEVER THE INPUT: true; the input reads as it did. -/
def deviceReadsSpec : ChangeSpec := { name := "deviceReads", fn := fun _ => fun
  | [d1, d2] => { results := [.lit (.bool true)], args := [d1, d2] }
  | _ => none }
def deviceReadsRow : OpenClaim := { program := "ytfiamglndglbeaa", sum := "0f7bd3e91837f8f9bc6190c46a2beba5e62029e0a13bacbb851240f2e23b52db", func := "janus/januslaw04.DeviceReads", spec := "deviceReads", apart := false }
def DeviceReadsSaid : Prop := deviceReadsRow.holds Try.pinned (OpenSpec.ofChange deviceReadsSpec)

/-- ITS FALSE NEIGHBOUR: 'it returns false'. Refute it at one input. -/
def deviceReadsWrong : ChangeSpec := { name := "deviceReads", fn := fun _ => fun
  | [d1, d2] => { results := [.lit (.bool false)], args := [d1, d2] }
  | _ => none }
def DeviceReadsWrongFalsely : Prop := deviceReadsRow.holds Try.pinned (OpenSpec.ofChange deviceReadsWrong)

/-- 'januslaw04.DeviceTimers': WHATEVER THE INPUT: true; the input reads as it did. -/
def deviceTimersSpec : ChangeSpec := { name := "deviceTimers", fn := fun _ => fun
  | [d] => { results := [.lit (.bool true)], args := [d] }
  | _ => none }
def deviceTimersRow : OpenClaim := { program := "ytfiamglndglbeaa", sum := "0f7bd3e91837f8f9bc6190c46a2beba5e62029e0a13bacbb851240f2e23b52db", func := "janus/januslaw04.DeviceTimers", spec := "deviceTimers", apart := false }
def DeviceTimersSaid : Prop := deviceTimersRow.holds Try.pinned (OpenSpec.ofChange deviceTimersSpec)

/-- ITS FALSE NEIGHBOUR: 'it returns false'. Refute it at one input. -/
def deviceTimersWrong : ChangeSpec := { name := "deviceTimers", fn := fun _ => fun
  | [d] => { results := [.lit (.bool false)], args := [d] }
  | _ => none }
def DeviceTimersWrongFalsely : Prop := deviceTimersRow.holds Try.pinned (OpenSpec.ofChange deviceTimersWrong)

/-- 'januslaw04.DeviceNone': WHATEVER THE INPUT: true; the input reads as it did. -/
def deviceNoneSpec : ChangeSpec := { name := "deviceNone", fn := fun _ => fun
  | [d] => { results := [.lit (.bool true)], args := [d] }
  | _ => none }
def deviceNoneRow : OpenClaim := { program := "ytfiamglndglbeaa", sum := "0f7bd3e91837f8f9bc6190c46a2beba5e62029e0a13bacbb851240f2e23b52db", func := "janus/januslaw04.DeviceNone", spec := "deviceNone", apart := false }
def DeviceNoneSaid : Prop := deviceNoneRow.holds Try.pinned (OpenSpec.ofChange deviceNoneSpec)

/-- ITS FALSE NEIGHBOUR: 'it returns false'. Refute it at one input. -/
def deviceNoneWrong : ChangeSpec := { name := "deviceNone", fn := fun _ => fun
  | [d] => { results := [.lit (.bool false)], args := [d] }
  | _ => none }
def DeviceNoneWrongFalsely : Prop := deviceNoneRow.holds Try.pinned (OpenSpec.ofChange deviceNoneWrong)

/- THE SECOND FORM. 'bulk': how many values and letters a reading holds, each counted each time it is reached (what is shared counts as often as it is met; a slice's spare places count too). A statement '..UptoSaid' is the law's where the arguments, and the package variables that the reading takes, are together of bulk at most 1048576: NARROWER than '..Said'. Prove '..Said' where nothing that the law and all that it calls make is longer than what came in: it says more and counts as full. Else prove '..UptoSaid'. A law counts once. -/
mutual
def uptoBulk {H : Type} : DataW H → Nat
  | .lit (.string bytes) => bytes.length + 1
  | .lit _ => 1
  | .nil => 1
  | .ptr d => uptoBulk d + 1
  | .slice elems spare => uptoBulkAll elems + uptoBulkAll spare + 1
  | .agg parts => uptoBulkAll parts + 1
  | .iface _ d => uptoBulk d + 1
  | .map entries => uptoBulkEntries entries + 1
  | .held _ => 1
def uptoBulkAll {H : Type} : List (DataW H) → Nat
  | [] => 0
  | d :: r => uptoBulk d + uptoBulkAll r
def uptoBulkEntries {H : Type} : List (Lit × DataW H) → Nat
  | [] => 0
  | x :: r => uptoBulkEntry x + uptoBulkEntries r
def uptoBulkEntry {H : Type} : Lit × DataW H → Nat
  | (.string bytes, d) => bytes.length + uptoBulk d + 1
  | (_, d) => uptoBulk d + 1
 end
def uptoSmall : (H : Type) → List (DataW H) → Bool := fun _ ds => decide (uptoBulkAll ds ≤ 1048576)
def OpenSpec.upto (s : _root_.Go.ChangeSpec) : _root_.Go.OpenSpec := { _root_.Go.OpenSpec.ofChange s with cond := some uptoSmall }

/-- 'januslaw04.DeviceConsoles', WHERE WHAT IT READS IS OF BULK AT MOST 1048576: true; the input reads as it did. -/
def deviceConsolesUptoRow : OpenClaim := { program := "ytfiamglndglbeaa", sum := "0f7bd3e91837f8f9bc6190c46a2beba5e62029e0a13bacbb851240f2e23b52db", func := "janus/januslaw04.DeviceConsoles", spec := "deviceConsoles", apart := false, narrowed := true }
def DeviceConsolesUptoSaid : Prop := deviceConsolesUptoRow.holds Try.pinned (OpenSpec.upto deviceConsolesSpec)

/-- 'januslaw04.DeviceOnce', WHERE WHAT IT READS IS OF BULK AT MOST 1048576: true; the input reads as it did. -/
def deviceOnceUptoRow : OpenClaim := { program := "ytfiamglndglbeaa", sum := "0f7bd3e91837f8f9bc6190c46a2beba5e62029e0a13bacbb851240f2e23b52db", func := "janus/januslaw04.DeviceOnce", spec := "deviceOnce", apart := false, narrowed := true }
def DeviceOnceUptoSaid : Prop := deviceOnceUptoRow.holds Try.pinned (OpenSpec.upto deviceOnceSpec)

/-- 'januslaw04.DeviceReads', WHERE WHAT IT READS IS OF BULK AT MOST 1048576: true; the input reads as it did. -/
def deviceReadsUptoRow : OpenClaim := { program := "ytfiamglndglbeaa", sum := "0f7bd3e91837f8f9bc6190c46a2beba5e62029e0a13bacbb851240f2e23b52db", func := "janus/januslaw04.DeviceReads", spec := "deviceReads", apart := false, narrowed := true }
def DeviceReadsUptoSaid : Prop := deviceReadsUptoRow.holds Try.pinned (OpenSpec.upto deviceReadsSpec)

/-- 'januslaw04.DeviceTimers', WHERE WHAT IT READS IS OF BULK AT MOST 1048576: true; the input reads as it did. -/
def deviceTimersUptoRow : OpenClaim := { program := "ytfiamglndglbeaa", sum := "0f7bd3e91837f8f9bc6190c46a2beba5e62029e0a13bacbb851240f2e23b52db", func := "janus/januslaw04.DeviceTimers", spec := "deviceTimers", apart := false, narrowed := true }
def DeviceTimersUptoSaid : Prop := deviceTimersUptoRow.holds Try.pinned (OpenSpec.upto deviceTimersSpec)

/-- 'januslaw04.DeviceNone', WHERE WHAT IT READS IS OF BULK AT MOST 1048576: true; the input reads as it did. -/
def deviceNoneUptoRow : OpenClaim := { program := "ytfiamglndglbeaa", sum := "0f7bd3e91837f8f9bc6190c46a2beba5e62029e0a13bacbb851240f2e23b52db", func := "janus/januslaw04.DeviceNone", spec := "deviceNone", apart := false, narrowed := true }
def DeviceNoneUptoSaid : Prop := deviceNoneUptoRow.holds Try.pinned (OpenSpec.upto deviceNoneSpec)

end Rows
end Go.Proofs.Ytfiamglndglbeaa

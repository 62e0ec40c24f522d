/-
  Printed by gen.py (this repo, wip/gen): of each Go function the normal form of its weakest precondition, and that it serves a call. No statement of its own.
-/
import Derived.Test.YtjfgaiffdcnclaaGreatDenC
import Derived.Test.YtjfgaiffdcnclaaGreatProg
set_option linter.unusedVariables false
set_option maxRecDepth 100000
set_option maxHeartbeats 4000000
namespace Go.Proofs
open Go Go.Den

theorem mixed_ok : Tryz.prog.follows .mixedOrders = true := by kernel_rfl
theorem slT_januslaw12_Deed : SlT Tryz.prog 22 31 7 56 (.agg #[.int .i64 0, .int .i64 0, .int .i64 0, .int .i64 0, .int .i64 0, .int .i64 0, .int .u64 0]) := ⟨by kernel_rfl, (Tryz.prog.info? 31).getD default, by kernel_rfl, by kernel_rfl, by kernel_rfl, by kernel_rfl, by kernel_rfl⟩
theorem slT_int : SlT Tryz.prog 33 3 1 8 (.int .i64 0) := ⟨by kernel_rfl, (Tryz.prog.info? 3).getD default, by kernel_rfl, by kernel_rfl, by kernel_rfl, by kernel_rfl, by kernel_rfl⟩
theorem slT_Sl_u64 : SlT Tryz.prog 37 41 1 24 (.slice none 0 0) := ⟨by kernel_rfl, (Tryz.prog.info? 41).getD default, by kernel_rfl, by kernel_rfl, by kernel_rfl, by kernel_rfl, by kernel_rfl⟩
theorem slT_u64 : SlT Tryz.prog 41 29 1 8 (.int .u64 0) := ⟨by kernel_rfl, (Tryz.prog.info? 29).getD default, by kernel_rfl, by kernel_rfl, by kernel_rfl, by kernel_rfl, by kernel_rfl⟩
theorem slT_janusref08_C : SlT Tryz.prog 56 108 8 64 (.agg #[.int .i64 0, .int .i64 0, .int .i64 0, .int .i64 0, .int .i64 0, .int .i64 0, .int .i64 0, .int .i64 0]) := ⟨by kernel_rfl, (Tryz.prog.info? 108).getD default, by kernel_rfl, by kernel_rfl, by kernel_rfl, by kernel_rfl, by kernel_rfl⟩
theorem slT_P_caps_node : SlT Tryz.prog 126 87 1 8 (.pointer none) := ⟨by kernel_rfl, (Tryz.prog.info? 87).getD default, by kernel_rfl, by kernel_rfl, by kernel_rfl, by kernel_rfl, by kernel_rfl⟩
def Q_januslaw12_Deed (cs : List Value) : Prop := ∃ f0 : Int, ∃ f1 : Int, ∃ f2 : Int, ∃ f3 : Int, ∃ f4 : Int, ∃ f5 : Int, ∃ f6 : Int, cs = [.int .i64 f0, .int .i64 f1, .int .i64 f2, .int .i64 f3, .int .i64 f4, .int .i64 f5, .int .u64 f6] ∧ (Lit.int .i64 f0).wf = true ∧ (Lit.int .i64 f1).wf = true ∧ (Lit.int .i64 f2).wf = true ∧ (Lit.int .i64 f3).wf = true ∧ (Lit.int .i64 f4).wf = true ∧ (Lit.int .i64 f5).wf = true ∧ (Lit.int .u64 f6).wf = true
def Q_int (cs : List Value) : Prop := ∃ f0 : Int, cs = [.int .i64 f0] ∧ (Lit.int .i64 f0).wf = true
def Q_u64 (cs : List Value) : Prop := ∃ f0 : Int, cs = [.int .u64 f0] ∧ (Lit.int .u64 f0).wf = true
def Q_janusref08_C (cs : List Value) : Prop := ∃ f0 : Int, ∃ f1 : Int, ∃ f2 : Int, ∃ f3 : Int, ∃ f4 : Int, ∃ f5 : Int, ∃ f6 : Int, ∃ f7 : Int, cs = [.int .i64 f0, .int .i64 f1, .int .i64 f2, .int .i64 f3, .int .i64 f4, .int .i64 f5, .int .i64 f6, .int .i64 f7] ∧ (Lit.int .i64 f0).wf = true ∧ (Lit.int .i64 f1).wf = true ∧ (Lit.int .i64 f2).wf = true ∧ (Lit.int .i64 f3).wf = true ∧ (Lit.int .i64 f4).wf = true ∧ (Lit.int .i64 f5).wf = true ∧ (Lit.int .i64 f6).wf = true ∧ (Lit.int .i64 f7).wf = true
def Q_Sl_u64 (w : World) (cs : List Value) : Prop := ∃ f0a : Option Addr, ∃ f0l : Nat, ∃ f0c : Nat, cs = [.slice f0a f0l f0c] ∧ SlIn w 1 Q_u64 f0a f0l f0c
theorem mapT_P_exodisk_entry : MapT Tryz.prog 50 3 84 (.pointer none) := ⟨by kernel_rfl, by kernel_rfl, (Tryz.prog.info? 84).getD default, by kernel_rfl, by kernel_rfl⟩
theorem eqT_januslaw12_Deed : EqT Tryz.prog 31 [.int .i64, .int .i64, .int .i64, .int .i64, .int .i64, .int .i64, .int .u64] := ⟨by kernel_rfl, by kernel_rfl, by kernel_rfl⟩
theorem eqT_api_Cap : EqT Tryz.prog 95 [.int .i64, .int .i64, .int .i64, .int .i64] := ⟨by kernel_rfl, by kernel_rfl, by kernel_rfl⟩
abbrev F_gosem_cut_init : Nat := 2
abbrev F_januslaw12_ExodiskPlays : Nat := 3
abbrev F_exodisk_New : Nat := 4
abbrev F_janusref12_New : Nat := 5
abbrev F_januslaw12_awake : Nat := 6
abbrev F_januslaw12_do : Nat := 7
abbrev F_janusref01_Ints : Nat := 8
abbrev F_exodisk_Kernel_Cached : Nat := 9
abbrev F_janusref01_Words : Nat := 10
abbrev F_exodisk_Kernel_Disk : Nat := 11
abbrev F_blocks_New : Nat := 12
abbrev F_caps_New : Nat := 13
abbrev F_janusref03_New : Nat := 14
abbrev F_exodisk_Kernel_Alloc : Nat := 15
abbrev F_exodisk_Kernel_Put : Nat := 16
abbrev F_januslaw03_Block : Nat := 17
abbrev F_exodisk_Kernel_Get : Nat := 18
abbrev F_exodisk_Kernel_Sync : Nat := 19
abbrev F_exodisk_Kernel_View : Nat := 20
abbrev F_exodisk_View_Get : Nat := 21
abbrev F_janusref12_Kernel_Alloc : Nat := 22
abbrev F_exodisk_Kernel_Grant : Nat := 23
abbrev F_janusref08_Caps_Give : Nat := 24
abbrev F_janusref08_Caps_Revoke : Nat := 25
abbrev F_exodisk_Kernel_Revoke : Nat := 26
abbrev F_janusref12_Kernel_Get : Nat := 27
abbrev F_janusref12_Kernel_Put : Nat := 28
abbrev F_janusref12_Kernel_Sync : Nat := 29
abbrev F_januslaw12_view : Nat := 30
abbrev F_exodisk_Kernel_Gone : Nat := 31
abbrev F_janusref08_Caps_Gone : Nat := 32
abbrev F_slices_Sorted_int : Nat := 33
abbrev F_maps_Keys_map_int_exodisk_entry_int_exodisk_entry : Nat := 34
abbrev F_caps_Caps_Holders : Nat := 35
abbrev F_caps_Caps_Add : Nat := 36
abbrev F_exodisk_Kernel_may : Nat := 37
abbrev F_slices_Clone_uint64_uint64 : Nat := 38
abbrev F_exodisk_Kernel_Look : Nat := 39
abbrev F_exodisk_View_at : Nat := 40
abbrev F_janusref08_Env : Nat := 41
abbrev F_janusref08_Caps_Holders : Nat := 42
abbrev F_janusref08_Caps_Add : Nat := 43
abbrev F_caps_Caps_Give : Nat := 44
abbrev F_janusref08_Caps_find : Nat := 45
abbrev F_janusref08_Caps_put : Nat := 46
abbrev F_janusref01_Has : Nat := 47
abbrev F_caps_Caps_Revoke : Nat := 48
abbrev F_janusref12_Kernel_may : Nat := 49
abbrev F_janusref12_Kernel_Look : Nat := 50
abbrev F_janusref01_Put : Nat := 51
abbrev F_janusref03_Disk_Put : Nat := 52
abbrev F_janusref12_Kernel_Rel : Nat := 53
abbrev F_exodisk_View_Put : Nat := 54
abbrev F_caps_Caps_Gone : Nat := 55
abbrev F_janusref08_Caps_Drop : Nat := 56
abbrev F_slices_Collect_int : Nat := 57
abbrev F_slices_Sort_int_int : Nat := 58
abbrev F_maps_Keys_map_int_exodisk_entry_int_exodisk_entry_1 : Nat := 59
abbrev F_caps_Caps_Has : Nat := 60
abbrev F_caps_is : Nat := 61
abbrev F_caps_may : Nat := 62
abbrev F_caps_Caps_put : Nat := 63
abbrev F_caps_Caps_Get : Nat := 64
abbrev F_janusref08_covers : Nat := 65
abbrev F_janusref08_May : Nat := 66
abbrev F_caps_Caps_at : Nat := 67
abbrev F_janusref08_Caps_free : Nat := 68
abbrev F_caps_Caps_each : Nat := 69
abbrev F_caps_Caps_Revoke_1 : Nat := 70
abbrev F_janusref08_Caps_Get : Nat := 71
abbrev F_caps_Caps_Drop : Nat := 72
abbrev F_slices_AppendSeq_int_int : Nat := 73
abbrev F_slices_pdqsortOrdered_int : Nat := 74
abbrev F_math_bits_Len : Nat := 75
abbrev F_slices_ContainsFunc_caps_node_caps_node : Nat := 76
abbrev F_caps_Caps_Has_1 : Nat := 77
abbrev F_caps_covers : Nat := 78
abbrev F_caps_Caps_Drop_1 : Nat := 79
abbrev F_caps_meet : Nat := 80
abbrev F_slices_insertionSortOrdered_int : Nat := 81
abbrev F_slices_heapSortOrdered_int : Nat := 82
abbrev F_slices_breakPatternsOrdered_int : Nat := 83
abbrev F_slices_choosePivotOrdered_int : Nat := 84
abbrev F_slices_reverseRangeOrdered_int : Nat := 85
abbrev F_slices_partialInsertionSortOrdered_int : Nat := 86
abbrev F_cmp_Less_int : Nat := 87
abbrev F_slices_partitionEqualOrdered_int : Nat := 88
abbrev F_slices_partitionOrdered_int : Nat := 89
abbrev F_math_bits_Len32 : Nat := 90
abbrev F_math_bits_Len64 : Nat := 91
abbrev F_slices_IndexFunc_caps_node_caps_node : Nat := 92
abbrev F_slices_siftDownOrdered_int : Nat := 93
abbrev F_slices_nextPowerOfTwo : Nat := 94
abbrev F_slices_xorshift_Next : Nat := 95
abbrev F_slices_medianAdjacentOrdered_int : Nat := 96
abbrev F_slices_medianOrdered_int : Nat := 97
abbrev F_cmp_isNaN_int : Nat := 98
abbrev F_slices_order2Ordered_int : Nat := 99
abbrev F_janusref03_Disk_Get : Nat := 115
abbrev F_blocks_Disk_Get : Nat := 116
abbrev F_blocks_Disk_Put : Nat := 118
abbrev F_blocks_Disk_at : Nat := 119
end Go.Proofs

/-
  Printed by gen.py (this repo, wip/gen): of each Go function the normal form of its weakest precondition, and that it serves a call. No statement of its own.
-/
import Derived.Test.YtmpaiobapmpngaaDenC
import Derived.Test.YtmpaiobapmpngaaProg
set_option linter.unusedVariables false
set_option maxRecDepth 100000
set_option maxHeartbeats 4000000
namespace Go.Proofs
open Go Go.Den

theorem mixed_ok : Try.prog.follows .mixedOrders = true := by kernel_rfl
theorem slT_u64 : SlT Try.prog 22 67 1 8 (.int .u64 0) := ⟨by kernel_rfl, (Try.prog.info? 67).getD default, by kernel_rfl, by kernel_rfl, by kernel_rfl, by kernel_rfl, by kernel_rfl⟩
theorem slT_januslaw18_Deed : SlT Try.prog 34 39 9 72 (.agg #[.int .i64 0, .int .i64 0, .int .i64 0, .int .i64 0, .int .i64 0, .int .i64 0, .int .i64 0, .bool false, .int .i64 0]) := ⟨by kernel_rfl, (Try.prog.info? 39).getD default, by kernel_rfl, by kernel_rfl, by kernel_rfl, by kernel_rfl, by kernel_rfl⟩
theorem slT_api_File : SlT Try.prog 46 37 5 40 (.agg #[.int .i64 0, .int .i64 0, .int .i64 0, .bool false, .int .i64 0]) := ⟨by kernel_rfl, (Try.prog.info? 37).getD default, by kernel_rfl, by kernel_rfl, by kernel_rfl, by kernel_rfl, by kernel_rfl⟩
theorem slT_janusref18_F : SlT Try.prog 53 80 6 64 (.agg #[.int .i64 0, .int .i64 0, .int .i64 0, .bool false, .int .i64 0, .slice none 0 0]) := ⟨by kernel_rfl, (Try.prog.info? 80).getD default, by kernel_rfl, by kernel_rfl, by kernel_rfl, by kernel_rfl, by kernel_rfl⟩
theorem slT_int : SlT Try.prog 64 3 1 8 (.int .i64 0) := ⟨by kernel_rfl, (Try.prog.info? 3).getD default, by kernel_rfl, by kernel_rfl, by kernel_rfl, by kernel_rfl, by kernel_rfl⟩
theorem slT_P_api_File : SlT Try.prog 68 72 1 8 (.pointer none) := ⟨by kernel_rfl, (Try.prog.info? 72).getD default, by kernel_rfl, by kernel_rfl, by kernel_rfl, by kernel_rfl, by kernel_rfl⟩
theorem slT_A2_int : SlT Try.prog 78 81 2 16 (.agg #[.int .i64 0, .int .i64 0]) := ⟨by kernel_rfl, (Try.prog.info? 81).getD default, by kernel_rfl, by kernel_rfl, by kernel_rfl, by kernel_rfl, by kernel_rfl⟩
def Q_u64 (cs : List Value) : Prop := ∃ f0 : Int, cs = [.int .u64 f0] ∧ (Lit.int .u64 f0).wf = true
def Q_januslaw18_Deed (cs : List Value) : Prop := ∃ f0 : Int, ∃ f1 : Int, ∃ f2 : Int, ∃ f3 : Int, ∃ f4 : Int, ∃ f5 : Int, ∃ f6 : Int, ∃ f7 : Bool, ∃ f8 : Int, cs = [.int .i64 f0, .int .i64 f1, .int .i64 f2, .int .i64 f3, .int .i64 f4, .int .i64 f5, .int .i64 f6, .bool f7, .int .i64 f8] ∧ (Lit.int .i64 f0).wf = true ∧ (Lit.int .i64 f1).wf = true ∧ (Lit.int .i64 f2).wf = true ∧ (Lit.int .i64 f3).wf = true ∧ (Lit.int .i64 f4).wf = true ∧ (Lit.int .i64 f5).wf = true ∧ (Lit.int .i64 f6).wf = true ∧ (Lit.int .i64 f8).wf = true
def Q_api_File (cs : List Value) : Prop := ∃ f0 : Int, ∃ f1 : Int, ∃ f2 : Int, ∃ f3 : Bool, ∃ f4 : Int, cs = [.int .i64 f0, .int .i64 f1, .int .i64 f2, .bool f3, .int .i64 f4] ∧ (Lit.int .i64 f0).wf = true ∧ (Lit.int .i64 f1).wf = true ∧ (Lit.int .i64 f2).wf = true ∧ (Lit.int .i64 f4).wf = true
def Q_int (cs : List Value) : Prop := ∃ f0 : Int, cs = [.int .i64 f0] ∧ (Lit.int .i64 f0).wf = true
def Q_A2_int (cs : List Value) : Prop := ∃ f0 : Int, ∃ f1 : Int, cs = [.int .i64 f0, .int .i64 f1] ∧ (Lit.int .i64 f0).wf = true ∧ (Lit.int .i64 f1).wf = true
def Q_janusref18_F (w : World) (cs : List Value) : Prop := ∃ f0 : Int, ∃ f1 : Int, ∃ f2 : Int, ∃ f3 : Bool, ∃ f4 : Int, ∃ f5a : Option Addr, ∃ f5l : Nat, ∃ f5c : Nat, cs = [.int .i64 f0, .int .i64 f1, .int .i64 f2, .bool f3, .int .i64 f4, .slice f5a f5l f5c] ∧ (Lit.int .i64 f0).wf = true ∧ (Lit.int .i64 f1).wf = true ∧ (Lit.int .i64 f2).wf = true ∧ (Lit.int .i64 f4).wf = true ∧ SlIn w 2 Q_A2_int f5a f5l f5c
theorem eqT_api_File : EqT Try.prog 37 [.int .i64, .int .i64, .int .i64, .bool, .int .i64] := ⟨by kernel_rfl, by kernel_rfl, by kernel_rfl⟩
abbrev F_gosem_cut_init : Nat := 2
abbrev F_januslaw18_FdsReads : Nat := 3
abbrev F_januslaw18_FdsRefs : Nat := 4
abbrev F_januslaw18_FdsShares : Nat := 5
abbrev F_januslaw18_FdsPlays : Nat := 6
abbrev F_januslaw18_FdsNone : Nat := 7
abbrev F_januslaw18_awake : Nat := 8
abbrev F_fds_Decode : Nat := 9
abbrev F_janusref18_Decode : Nat := 10
abbrev F_janusref01_Words : Nat := 11
abbrev F_fds_Fds_Encode : Nat := 12
abbrev F_fds_New : Nat := 13
abbrev F_fds_Fds_Open : Nat := 14
abbrev F_fds_Fds_Dup : Nat := 15
abbrev F_fds_Fds_Close : Nat := 16
abbrev F_fds_Fds_Fork : Nat := 17
abbrev F_fds_Fds_Gone : Nat := 18
abbrev F_fds_Fds_Get : Nat := 19
abbrev F_fds_Fds_Left : Nat := 20
abbrev F_fds_Fds_Seek : Nat := 21
abbrev F_januslaw18_fit : Nat := 22
abbrev F_janusref18_Fds_Open : Nat := 23
abbrev F_janusref18_Fds_Dup : Nat := 24
abbrev F_janusref18_Fds_Close : Nat := 25
abbrev F_janusref18_Fds_Get : Nat := 26
abbrev F_janusref18_Fds_Seek : Nat := 27
abbrev F_janusref18_Fds_Fork : Nat := 28
abbrev F_janusref18_Fds_Gone : Nat := 29
abbrev F_janusref18_Fds_Left : Nat := 30
abbrev F_janusref01_Ints : Nat := 31
abbrev F_fds_Fds_Ids : Nat := 32
abbrev F_janusref18_Fds_Ids : Nat := 33
abbrev F_janusref18_Fds_Encode : Nat := 34
abbrev F_slices_Chunk_uint64_uint64 : Nat := 35
abbrev F_slices_Equal_uint64_uint64 : Nat := 36
abbrev F_janusref18_Fds_sort : Nat := 37
abbrev F_fds_Fds_files : Nat := 38
abbrev F_slices_Index_api_File_api_File : Nat := 39
abbrev F_fds_Fds_at : Nat := 40
abbrev F_fds_Fds_free : Nat := 41
abbrev F_fds_Fds_file : Nat := 42
abbrev F_janusref18_Pid : Nat := 43
abbrev F_janusref18_Fds_free : Nat := 44
abbrev F_janusref18_Fds_at : Nat := 45
abbrev F_janusref18_Fds_name : Nat := 46
abbrev F_slices_Sort_int_int : Nat := 47
abbrev F_slices_Compact_int_int : Nat := 48
abbrev F_janusref01_Put : Nat := 49
abbrev F_janusref18_bit : Nat := 50
abbrev F_slices_Chunk_uint64_uint64_1 : Nat := 51
abbrev F_janusref18_less : Nat := 52
abbrev F_slices_Contains_api_File_api_File : Nat := 53
abbrev F_slices_pdqsortOrdered_int : Nat := 54
abbrev F_math_bits_Len : Nat := 55
abbrev F_slices_insertionSortOrdered_int : Nat := 56
abbrev F_slices_heapSortOrdered_int : Nat := 57
abbrev F_slices_breakPatternsOrdered_int : Nat := 58
abbrev F_slices_choosePivotOrdered_int : Nat := 59
abbrev F_slices_reverseRangeOrdered_int : Nat := 60
abbrev F_slices_partialInsertionSortOrdered_int : Nat := 61
abbrev F_cmp_Less_int : Nat := 62
abbrev F_slices_partitionEqualOrdered_int : Nat := 63
abbrev F_slices_partitionOrdered_int : Nat := 64
abbrev F_math_bits_Len32 : Nat := 65
abbrev F_math_bits_Len64 : Nat := 66
abbrev F_slices_siftDownOrdered_int : Nat := 67
abbrev F_slices_nextPowerOfTwo : Nat := 68
abbrev F_slices_xorshift_Next : Nat := 69
abbrev F_slices_medianAdjacentOrdered_int : Nat := 70
abbrev F_slices_medianOrdered_int : Nat := 71
abbrev F_cmp_isNaN_int : Nat := 72
abbrev F_slices_order2Ordered_int : Nat := 73
end Go.Proofs

/-
  Printed by gen.py (this repo, wip/gen): of each Go function the normal form of its weakest precondition, and that it serves a call. No statement of its own.
-/
import Derived.Test.YtndgafloegmlaaaDenC
import Derived.Test.YtndgafloegmlaaaProg
set_option linter.unusedVariables false
set_option maxRecDepth 100000
set_option maxHeartbeats 4000000
namespace Go.Proofs
open Go Go.Den

theorem mixed_ok : Try.prog.follows .mixedOrders = true := by kernel_rfl
theorem slT_januslaw09_Deed : SlT Try.prog 35 42 8 64 (.agg #[.int .i64 0, .int .i64 0, .int .i64 0, .int .i64 0, .int .i64 0, .bool false, .int .u64 0, .int .u64 0]) := ⟨by kernel_rfl, (Try.prog.info? 42).getD default, by kernel_rfl, by kernel_rfl, by kernel_rfl, by kernel_rfl, by kernel_rfl⟩
theorem slT_janusref08_C : SlT Try.prog 82 140 8 64 (.agg #[.int .i64 0, .int .i64 0, .int .i64 0, .int .i64 0, .int .i64 0, .int .i64 0, .int .i64 0, .int .i64 0]) := ⟨by kernel_rfl, (Try.prog.info? 140).getD default, by kernel_rfl, by kernel_rfl, by kernel_rfl, by kernel_rfl, by kernel_rfl⟩
theorem slT_Sl_u64 : SlT Try.prog 92 137 1 24 (.slice none 0 0) := ⟨by kernel_rfl, (Try.prog.info? 137).getD default, by kernel_rfl, by kernel_rfl, by kernel_rfl, by kernel_rfl, by kernel_rfl⟩
theorem slT_int : SlT Try.prog 95 3 1 8 (.int .i64 0) := ⟨by kernel_rfl, (Try.prog.info? 3).getD default, by kernel_rfl, by kernel_rfl, by kernel_rfl, by kernel_rfl, by kernel_rfl⟩
theorem slT_mem_frame : SlT Try.prog 115 131 32 256 (.agg (zc Try.prog 131)) := ⟨by kernel_rfl, (Try.prog.info? 131).getD default, by kernel_rfl, by kernel_rfl, by kernel_rfl, by kernel_rfl, by kernel_rfl⟩
theorem slT_u64 : SlT Try.prog 137 22 1 8 (.int .u64 0) := ⟨by kernel_rfl, (Try.prog.info? 22).getD default, by kernel_rfl, by kernel_rfl, by kernel_rfl, by kernel_rfl, by kernel_rfl⟩
theorem slT_P_caps_node : SlT Try.prog 155 118 1 8 (.pointer none) := ⟨by kernel_rfl, (Try.prog.info? 118).getD default, by kernel_rfl, by kernel_rfl, by kernel_rfl, by kernel_rfl, by kernel_rfl⟩
def Q_januslaw09_Deed (cs : List Value) : Prop := ∃ f0 : Int, ∃ f1 : Int, ∃ f2 : Int, ∃ f3 : Int, ∃ f4 : Int, ∃ f5 : Bool, ∃ f6 : Int, ∃ f7 : Int, cs = [.int .i64 f0, .int .i64 f1, .int .i64 f2, .int .i64 f3, .int .i64 f4, .bool f5, .int .u64 f6, .int .u64 f7] ∧ (Lit.int .i64 f0).wf = true ∧ (Lit.int .i64 f1).wf = true ∧ (Lit.int .i64 f2).wf = true ∧ (Lit.int .i64 f3).wf = true ∧ (Lit.int .i64 f4).wf = true ∧ (Lit.int .u64 f6).wf = true ∧ (Lit.int .u64 f7).wf = true
def Q_janusref08_C (cs : List Value) : Prop := ∃ f0 : Int, ∃ f1 : Int, ∃ f2 : Int, ∃ f3 : Int, ∃ f4 : Int, ∃ f5 : Int, ∃ f6 : Int, ∃ f7 : Int, cs = [.int .i64 f0, .int .i64 f1, .int .i64 f2, .int .i64 f3, .int .i64 f4, .int .i64 f5, .int .i64 f6, .int .i64 f7] ∧ (Lit.int .i64 f0).wf = true ∧ (Lit.int .i64 f1).wf = true ∧ (Lit.int .i64 f2).wf = true ∧ (Lit.int .i64 f3).wf = true ∧ (Lit.int .i64 f4).wf = true ∧ (Lit.int .i64 f5).wf = true ∧ (Lit.int .i64 f6).wf = true ∧ (Lit.int .i64 f7).wf = true
def Q_int (cs : List Value) : Prop := ∃ f0 : Int, cs = [.int .i64 f0] ∧ (Lit.int .i64 f0).wf = true
def Q_u64 (cs : List Value) : Prop := ∃ f0 : Int, cs = [.int .u64 f0] ∧ (Lit.int .u64 f0).wf = true
def Q_Sl_u64 (w : World) (cs : List Value) : Prop := ∃ f0a : Option Addr, ∃ f0l : Nat, ∃ f0c : Nat, cs = [.slice f0a f0l f0c] ∧ SlIn w 1 Q_u64 f0a f0l f0c
theorem mapT_api_Page : MapT Try.prog 123 3 50 (.agg #[.int .i64 0, .bool false]) := ⟨by kernel_rfl, by kernel_rfl, (Try.prog.info? 50).getD default, by kernel_rfl, by kernel_rfl⟩
theorem eqT_januslaw09_Deed : EqT Try.prog 42 [.int .i64, .int .i64, .int .i64, .int .i64, .int .i64, .bool, .int .u64, .int .u64] := ⟨by kernel_rfl, by kernel_rfl, by kernel_rfl⟩
theorem eqT_api_Page : EqT Try.prog 50 [.int .i64, .bool] := ⟨by kernel_rfl, by kernel_rfl, by kernel_rfl⟩
theorem eqT_api_Cap : EqT Try.prog 71 [.int .i64, .int .i64, .int .i64, .int .i64] := ⟨by kernel_rfl, by kernel_rfl, by kernel_rfl⟩
abbrev F_gosem_cut_init : Nat := 2
abbrev F_januslaw09_ExomemShares : Nat := 3
abbrev F_januslaw09_ExomemGuards : Nat := 4
abbrev F_januslaw09_ExomemClean : Nat := 5
abbrev F_januslaw09_ExomemNone : Nat := 6
abbrev F_exomem_New : Nat := 7
abbrev F_exomem_Kernel_Alloc : Nat := 8
abbrev F_exomem_Kernel_Grant : Nat := 9
abbrev F_januslaw09_awake : Nat := 10
abbrev F_exomem_Kernel_Write : Nat := 11
abbrev F_exomem_Kernel_Read : Nat := 12
abbrev F_exomem_Kernel_Map : Nat := 13
abbrev F_janusref09_New : Nat := 14
abbrev F_janusref09_Kernel_Alloc : Nat := 15
abbrev F_janusref09_Kernel_Write : Nat := 16
abbrev F_januslaw09_do : Nat := 17
abbrev F_exomem_Kernel_Gone : Nat := 18
abbrev F_exomem_Kernel_Left : Nat := 19
abbrev F_exomem_Kernel_Load : Nat := 20
abbrev F_exomem_Kernel_Page : Nat := 21
abbrev F_exomem_Kernel_Free : Nat := 22
abbrev F_exomem_Kernel_Revoke : Nat := 23
abbrev F_exomem_Kernel_Unmap : Nat := 24
abbrev F_exomem_Kernel_Store : Nat := 25
abbrev F_exomem_Kernel_Copy : Nat := 26
abbrev F_exomem_Kernel_Refs : Nat := 27
abbrev F_exomem_Kernel_Slot : Nat := 28
abbrev F_mem_New : Nat := 29
abbrev F_caps_New : Nat := 30
abbrev F_mmu_New : Nat := 31
abbrev F_exomem_Kernel_table : Nat := 32
abbrev F_mem_Mem_Frames : Nat := 33
abbrev F_exomem_Kernel_free : Nat := 34
abbrev F_caps_Caps_Add : Nat := 35
abbrev F_mem_Mem_Zero : Nat := 36
abbrev F_caps_Caps_Give : Nat := 37
abbrev F_exomem_Kernel_frame : Nat := 38
abbrev F_mem_Mem_Write : Nat := 39
abbrev F_mem_Mem_Read : Nat := 40
abbrev F_exomem_need : Nat := 41
abbrev F_mmu_Table_Map : Nat := 42
abbrev F_janusref01_New : Nat := 43
abbrev F_janusref08_Env : Nat := 44
abbrev F_janusref08_Caps_Holders : Nat := 45
abbrev F_janusref08_Caps_Add : Nat := 46
abbrev F_janusref01_Mem_Zero : Nat := 47
abbrev F_janusref09_Kernel_cap : Nat := 48
abbrev F_janusref01_Mem_Write : Nat := 49
abbrev F_janusref08_Caps_Give : Nat := 50
abbrev F_janusref09_Kernel_Free : Nat := 51
abbrev F_janusref09_Kernel_Revoke : Nat := 52
abbrev F_janusref09_Kernel_Map : Nat := 53
abbrev F_janusref09_Kernel_Unmap : Nat := 54
abbrev F_janusref09_Kernel_Load : Nat := 55
abbrev F_janusref09_Kernel_Store : Nat := 56
abbrev F_janusref09_Kernel_Copy : Nat := 57
abbrev F_janusref09_Kernel_Read : Nat := 58
abbrev F_janusref09_Kernel_Gone : Nat := 59
abbrev F_caps_Caps_Gone : Nat := 60
abbrev F_exomem_Kernel_tidy : Nat := 61
abbrev F_mmu_Table_Walk : Nat := 62
abbrev F_mmu_Table_At : Nat := 63
abbrev F_caps_Caps_Drop : Nat := 64
abbrev F_caps_Caps_Revoke : Nat := 65
abbrev F_mmu_Table_Unmap : Nat := 66
abbrev F_mem_Mem_Copy : Nat := 67
abbrev F_caps_Caps_Get : Nat := 68
abbrev F_caps_Caps_Holders : Nat := 69
abbrev F_caps_is : Nat := 70
abbrev F_caps_may : Nat := 71
abbrev F_caps_Caps_put : Nat := 72
abbrev F_mem_Mem_at : Nat := 73
abbrev F_caps_Caps_at : Nat := 74
abbrev F_mem_Mem_word : Nat := 75
abbrev F_mmu_page : Nat := 76
abbrev F_janusref08_covers : Nat := 77
abbrev F_janusref01_Put : Nat := 78
abbrev F_janusref08_May : Nat := 79
abbrev F_janusref08_Caps_put : Nat := 80
abbrev F_janusref01_Mem_has : Nat := 81
abbrev F_janusref08_Caps_Get : Nat := 82
abbrev F_janusref08_Caps_find : Nat := 83
abbrev F_janusref08_Caps_Drop : Nat := 84
abbrev F_janusref09_Kernel_tidy : Nat := 85
abbrev F_janusref08_Caps_Revoke : Nat := 86
abbrev F_janusref02_Table_Map : Nat := 87
abbrev F_janusref02_Table_Unmap : Nat := 88
abbrev F_janusref02_Table_Walk : Nat := 89
abbrev F_janusref01_Mem_Read : Nat := 90
abbrev F_janusref01_Mem_Copy : Nat := 91
abbrev F_janusref08_Caps_Gone : Nat := 92
abbrev F_exomem_Kernel_losses : Nat := 93
abbrev F_mmu_use : Nat := 94
abbrev F_caps_Caps_each : Nat := 95
abbrev F_caps_Caps_Drop_1 : Nat := 96
abbrev F_caps_meet : Nat := 97
abbrev F_caps_Caps_Revoke_1 : Nat := 98
abbrev F_caps_Caps_Has : Nat := 99
abbrev F_janusref08_Caps_free : Nat := 100
abbrev F_janusref02_Table_At : Nat := 101
abbrev F_janusref08_Caps_Has : Nat := 102
abbrev F_janusref01_Has : Nat := 103
abbrev F_exomem_Kernel_losses_1 : Nat := 104
abbrev F_slices_ContainsFunc_caps_node_caps_node : Nat := 105
abbrev F_caps_Caps_Has_1 : Nat := 106
abbrev F_caps_covers : Nat := 107
abbrev F_slices_IndexFunc_caps_node_caps_node : Nat := 108
end Go.Proofs

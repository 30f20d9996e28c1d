/- Contracts: a word turned, by both packages. -/
import Derived.Test.YtcdljlaoedaliaaDoorChecked
import Derived.Test.YtcdljlaoedaliaaDoorU3
import Derived.WalkKit
import Derived.Tactics2
import Derived.RowKit
set_option linter.unusedVariables false
set_option linter.unusedSimpArgs false
namespace Go.Proofs.YtcdljlaoedaliaaDoor
open Go.RowKit
theorem rot_2 (x : UInt32) (w : World) : Calls Tryd.prog 99 #[.int .u32 (x.toNat : Int), .int .i64 (-2)] w fun e w' => e = .returned (.int .u32 ((U3.rr x 2).toNat : Int)) ∧ w = w' := by
  have a1 : bits .and .u64 (IntKind.u64.wrap (-2)) 31 = 30 := by decide
  have a2 : (x.toNat : Int) * 1073741824 % 4294967296 = ((U3.sl x 30).toNat : Int) := U3.shl' x 30 1073741824 (by decide) (by decide)
  have a3 : (x.toNat : Int) / 4 = ((U3.sr x 2).toNat : Int) := U3.shr_ x 2 4 (by decide) (by decide)
  have a4 := U3.or_ (U3.sl x 30) (U3.sr x 2)
  have a5 : U3.og (U3.sl x 30) (U3.sr x 2) = U3.rr x 2 := by unfold U3.rr U3.og; exact UInt32.or_comm _ _
  rw [a5] at a4
  clear a5
  go_enter Tryd.func99, Tryd.ntmps99
  go_wp2
  go_ret
  exact ⟨rfl, rfl⟩
theorem turn_2 (x : UInt32) (w : World) : Calls Tryd.prog 82 #[.int .u32 (x.toNat : Int), .int .u64 2] w fun e w' => e = .returned (.int .u32 ((U3.rr x 2).toNat : Int)) ∧ w = w' := by
  have a2 : (x.toNat : Int) * 1073741824 % 4294967296 = ((U3.sl x 30).toNat : Int) := U3.shl' x 30 1073741824 (by decide) (by decide)
  have a3 : (x.toNat : Int) / 4 = ((U3.sr x 2).toNat : Int) := U3.shr_ x 2 4 (by decide) (by decide)
  have a4 := U3.or_ (U3.sr x 2) (U3.sl x 30)
  go_enter Tryd.func82, Tryd.ntmps82
  go_wp2
  go_ret
  exact ⟨rfl, rfl⟩
theorem rot_6 (x : UInt32) (w : World) : Calls Tryd.prog 99 #[.int .u32 (x.toNat : Int), .int .i64 (-6)] w fun e w' => e = .returned (.int .u32 ((U3.rr x 6).toNat : Int)) ∧ w = w' := by
  have a1 : bits .and .u64 (IntKind.u64.wrap (-6)) 31 = 26 := by decide
  have a2 : (x.toNat : Int) * 67108864 % 4294967296 = ((U3.sl x 26).toNat : Int) := U3.shl' x 26 67108864 (by decide) (by decide)
  have a3 : (x.toNat : Int) / 64 = ((U3.sr x 6).toNat : Int) := U3.shr_ x 6 64 (by decide) (by decide)
  have a4 := U3.or_ (U3.sl x 26) (U3.sr x 6)
  have a5 : U3.og (U3.sl x 26) (U3.sr x 6) = U3.rr x 6 := by unfold U3.rr U3.og; exact UInt32.or_comm _ _
  rw [a5] at a4
  clear a5
  go_enter Tryd.func99, Tryd.ntmps99
  go_wp2
  go_ret
  exact ⟨rfl, rfl⟩
theorem turn_6 (x : UInt32) (w : World) : Calls Tryd.prog 82 #[.int .u32 (x.toNat : Int), .int .u64 6] w fun e w' => e = .returned (.int .u32 ((U3.rr x 6).toNat : Int)) ∧ w = w' := by
  have a2 : (x.toNat : Int) * 67108864 % 4294967296 = ((U3.sl x 26).toNat : Int) := U3.shl' x 26 67108864 (by decide) (by decide)
  have a3 : (x.toNat : Int) / 64 = ((U3.sr x 6).toNat : Int) := U3.shr_ x 6 64 (by decide) (by decide)
  have a4 := U3.or_ (U3.sr x 6) (U3.sl x 26)
  go_enter Tryd.func82, Tryd.ntmps82
  go_wp2
  go_ret
  exact ⟨rfl, rfl⟩
theorem rot_7 (x : UInt32) (w : World) : Calls Tryd.prog 99 #[.int .u32 (x.toNat : Int), .int .i64 (-7)] w fun e w' => e = .returned (.int .u32 ((U3.rr x 7).toNat : Int)) ∧ w = w' := by
  have a1 : bits .and .u64 (IntKind.u64.wrap (-7)) 31 = 25 := by decide
  have a2 : (x.toNat : Int) * 33554432 % 4294967296 = ((U3.sl x 25).toNat : Int) := U3.shl' x 25 33554432 (by decide) (by decide)
  have a3 : (x.toNat : Int) / 128 = ((U3.sr x 7).toNat : Int) := U3.shr_ x 7 128 (by decide) (by decide)
  have a4 := U3.or_ (U3.sl x 25) (U3.sr x 7)
  have a5 : U3.og (U3.sl x 25) (U3.sr x 7) = U3.rr x 7 := by unfold U3.rr U3.og; exact UInt32.or_comm _ _
  rw [a5] at a4
  clear a5
  go_enter Tryd.func99, Tryd.ntmps99
  go_wp2
  go_ret
  exact ⟨rfl, rfl⟩
theorem turn_7 (x : UInt32) (w : World) : Calls Tryd.prog 82 #[.int .u32 (x.toNat : Int), .int .u64 7] w fun e w' => e = .returned (.int .u32 ((U3.rr x 7).toNat : Int)) ∧ w = w' := by
  have a2 : (x.toNat : Int) * 33554432 % 4294967296 = ((U3.sl x 25).toNat : Int) := U3.shl' x 25 33554432 (by decide) (by decide)
  have a3 : (x.toNat : Int) / 128 = ((U3.sr x 7).toNat : Int) := U3.shr_ x 7 128 (by decide) (by decide)
  have a4 := U3.or_ (U3.sr x 7) (U3.sl x 25)
  go_enter Tryd.func82, Tryd.ntmps82
  go_wp2
  go_ret
  exact ⟨rfl, rfl⟩
theorem rot_11 (x : UInt32) (w : World) : Calls Tryd.prog 99 #[.int .u32 (x.toNat : Int), .int .i64 (-11)] w fun e w' => e = .returned (.int .u32 ((U3.rr x 11).toNat : Int)) ∧ w = w' := by
  have a1 : bits .and .u64 (IntKind.u64.wrap (-11)) 31 = 21 := by decide
  have a2 : (x.toNat : Int) * 2097152 % 4294967296 = ((U3.sl x 21).toNat : Int) := U3.shl' x 21 2097152 (by decide) (by decide)
  have a3 : (x.toNat : Int) / 2048 = ((U3.sr x 11).toNat : Int) := U3.shr_ x 11 2048 (by decide) (by decide)
  have a4 := U3.or_ (U3.sl x 21) (U3.sr x 11)
  have a5 : U3.og (U3.sl x 21) (U3.sr x 11) = U3.rr x 11 := by unfold U3.rr U3.og; exact UInt32.or_comm _ _
  rw [a5] at a4
  clear a5
  go_enter Tryd.func99, Tryd.ntmps99
  go_wp2
  go_ret
  exact ⟨rfl, rfl⟩
theorem turn_11 (x : UInt32) (w : World) : Calls Tryd.prog 82 #[.int .u32 (x.toNat : Int), .int .u64 11] w fun e w' => e = .returned (.int .u32 ((U3.rr x 11).toNat : Int)) ∧ w = w' := by
  have a2 : (x.toNat : Int) * 2097152 % 4294967296 = ((U3.sl x 21).toNat : Int) := U3.shl' x 21 2097152 (by decide) (by decide)
  have a3 : (x.toNat : Int) / 2048 = ((U3.sr x 11).toNat : Int) := U3.shr_ x 11 2048 (by decide) (by decide)
  have a4 := U3.or_ (U3.sr x 11) (U3.sl x 21)
  go_enter Tryd.func82, Tryd.ntmps82
  go_wp2
  go_ret
  exact ⟨rfl, rfl⟩
theorem rot_13 (x : UInt32) (w : World) : Calls Tryd.prog 99 #[.int .u32 (x.toNat : Int), .int .i64 (-13)] w fun e w' => e = .returned (.int .u32 ((U3.rr x 13).toNat : Int)) ∧ w = w' := by
  have a1 : bits .and .u64 (IntKind.u64.wrap (-13)) 31 = 19 := by decide
  have a2 : (x.toNat : Int) * 524288 % 4294967296 = ((U3.sl x 19).toNat : Int) := U3.shl' x 19 524288 (by decide) (by decide)
  have a3 : (x.toNat : Int) / 8192 = ((U3.sr x 13).toNat : Int) := U3.shr_ x 13 8192 (by decide) (by decide)
  have a4 := U3.or_ (U3.sl x 19) (U3.sr x 13)
  have a5 : U3.og (U3.sl x 19) (U3.sr x 13) = U3.rr x 13 := by unfold U3.rr U3.og; exact UInt32.or_comm _ _
  rw [a5] at a4
  clear a5
  go_enter Tryd.func99, Tryd.ntmps99
  go_wp2
  go_ret
  exact ⟨rfl, rfl⟩
theorem turn_13 (x : UInt32) (w : World) : Calls Tryd.prog 82 #[.int .u32 (x.toNat : Int), .int .u64 13] w fun e w' => e = .returned (.int .u32 ((U3.rr x 13).toNat : Int)) ∧ w = w' := by
  have a2 : (x.toNat : Int) * 524288 % 4294967296 = ((U3.sl x 19).toNat : Int) := U3.shl' x 19 524288 (by decide) (by decide)
  have a3 : (x.toNat : Int) / 8192 = ((U3.sr x 13).toNat : Int) := U3.shr_ x 13 8192 (by decide) (by decide)
  have a4 := U3.or_ (U3.sr x 13) (U3.sl x 19)
  go_enter Tryd.func82, Tryd.ntmps82
  go_wp2
  go_ret
  exact ⟨rfl, rfl⟩
theorem rot_17 (x : UInt32) (w : World) : Calls Tryd.prog 99 #[.int .u32 (x.toNat : Int), .int .i64 (-17)] w fun e w' => e = .returned (.int .u32 ((U3.rr x 17).toNat : Int)) ∧ w = w' := by
  have a1 : bits .and .u64 (IntKind.u64.wrap (-17)) 31 = 15 := by decide
  have a2 : (x.toNat : Int) * 32768 % 4294967296 = ((U3.sl x 15).toNat : Int) := U3.shl' x 15 32768 (by decide) (by decide)
  have a3 : (x.toNat : Int) / 131072 = ((U3.sr x 17).toNat : Int) := U3.shr_ x 17 131072 (by decide) (by decide)
  have a4 := U3.or_ (U3.sl x 15) (U3.sr x 17)
  have a5 : U3.og (U3.sl x 15) (U3.sr x 17) = U3.rr x 17 := by unfold U3.rr U3.og; exact UInt32.or_comm _ _
  rw [a5] at a4
  clear a5
  go_enter Tryd.func99, Tryd.ntmps99
  go_wp2
  go_ret
  exact ⟨rfl, rfl⟩
theorem turn_17 (x : UInt32) (w : World) : Calls Tryd.prog 82 #[.int .u32 (x.toNat : Int), .int .u64 17] w fun e w' => e = .returned (.int .u32 ((U3.rr x 17).toNat : Int)) ∧ w = w' := by
  have a2 : (x.toNat : Int) * 32768 % 4294967296 = ((U3.sl x 15).toNat : Int) := U3.shl' x 15 32768 (by decide) (by decide)
  have a3 : (x.toNat : Int) / 131072 = ((U3.sr x 17).toNat : Int) := U3.shr_ x 17 131072 (by decide) (by decide)
  have a4 := U3.or_ (U3.sr x 17) (U3.sl x 15)
  go_enter Tryd.func82, Tryd.ntmps82
  go_wp2
  go_ret
  exact ⟨rfl, rfl⟩
theorem rot_18 (x : UInt32) (w : World) : Calls Tryd.prog 99 #[.int .u32 (x.toNat : Int), .int .i64 (-18)] w fun e w' => e = .returned (.int .u32 ((U3.rr x 18).toNat : Int)) ∧ w = w' := by
  have a1 : bits .and .u64 (IntKind.u64.wrap (-18)) 31 = 14 := by decide
  have a2 : (x.toNat : Int) * 16384 % 4294967296 = ((U3.sl x 14).toNat : Int) := U3.shl' x 14 16384 (by decide) (by decide)
  have a3 : (x.toNat : Int) / 262144 = ((U3.sr x 18).toNat : Int) := U3.shr_ x 18 262144 (by decide) (by decide)
  have a4 := U3.or_ (U3.sl x 14) (U3.sr x 18)
  have a5 : U3.og (U3.sl x 14) (U3.sr x 18) = U3.rr x 18 := by unfold U3.rr U3.og; exact UInt32.or_comm _ _
  rw [a5] at a4
  clear a5
  go_enter Tryd.func99, Tryd.ntmps99
  go_wp2
  go_ret
  exact ⟨rfl, rfl⟩
theorem turn_18 (x : UInt32) (w : World) : Calls Tryd.prog 82 #[.int .u32 (x.toNat : Int), .int .u64 18] w fun e w' => e = .returned (.int .u32 ((U3.rr x 18).toNat : Int)) ∧ w = w' := by
  have a2 : (x.toNat : Int) * 16384 % 4294967296 = ((U3.sl x 14).toNat : Int) := U3.shl' x 14 16384 (by decide) (by decide)
  have a3 : (x.toNat : Int) / 262144 = ((U3.sr x 18).toNat : Int) := U3.shr_ x 18 262144 (by decide) (by decide)
  have a4 := U3.or_ (U3.sr x 18) (U3.sl x 14)
  go_enter Tryd.func82, Tryd.ntmps82
  go_wp2
  go_ret
  exact ⟨rfl, rfl⟩
theorem rot_19 (x : UInt32) (w : World) : Calls Tryd.prog 99 #[.int .u32 (x.toNat : Int), .int .i64 (-19)] w fun e w' => e = .returned (.int .u32 ((U3.rr x 19).toNat : Int)) ∧ w = w' := by
  have a1 : bits .and .u64 (IntKind.u64.wrap (-19)) 31 = 13 := by decide
  have a2 : (x.toNat : Int) * 8192 % 4294967296 = ((U3.sl x 13).toNat : Int) := U3.shl' x 13 8192 (by decide) (by decide)
  have a3 : (x.toNat : Int) / 524288 = ((U3.sr x 19).toNat : Int) := U3.shr_ x 19 524288 (by decide) (by decide)
  have a4 := U3.or_ (U3.sl x 13) (U3.sr x 19)
  have a5 : U3.og (U3.sl x 13) (U3.sr x 19) = U3.rr x 19 := by unfold U3.rr U3.og; exact UInt32.or_comm _ _
  rw [a5] at a4
  clear a5
  go_enter Tryd.func99, Tryd.ntmps99
  go_wp2
  go_ret
  exact ⟨rfl, rfl⟩
theorem turn_19 (x : UInt32) (w : World) : Calls Tryd.prog 82 #[.int .u32 (x.toNat : Int), .int .u64 19] w fun e w' => e = .returned (.int .u32 ((U3.rr x 19).toNat : Int)) ∧ w = w' := by
  have a2 : (x.toNat : Int) * 8192 % 4294967296 = ((U3.sl x 13).toNat : Int) := U3.shl' x 13 8192 (by decide) (by decide)
  have a3 : (x.toNat : Int) / 524288 = ((U3.sr x 19).toNat : Int) := U3.shr_ x 19 524288 (by decide) (by decide)
  have a4 := U3.or_ (U3.sr x 19) (U3.sl x 13)
  go_enter Tryd.func82, Tryd.ntmps82
  go_wp2
  go_ret
  exact ⟨rfl, rfl⟩
theorem rot_22 (x : UInt32) (w : World) : Calls Tryd.prog 99 #[.int .u32 (x.toNat : Int), .int .i64 (-22)] w fun e w' => e = .returned (.int .u32 ((U3.rr x 22).toNat : Int)) ∧ w = w' := by
  have a1 : bits .and .u64 (IntKind.u64.wrap (-22)) 31 = 10 := by decide
  have a2 : (x.toNat : Int) * 1024 % 4294967296 = ((U3.sl x 10).toNat : Int) := U3.shl' x 10 1024 (by decide) (by decide)
  have a3 : (x.toNat : Int) / 4194304 = ((U3.sr x 22).toNat : Int) := U3.shr_ x 22 4194304 (by decide) (by decide)
  have a4 := U3.or_ (U3.sl x 10) (U3.sr x 22)
  have a5 : U3.og (U3.sl x 10) (U3.sr x 22) = U3.rr x 22 := by unfold U3.rr U3.og; exact UInt32.or_comm _ _
  rw [a5] at a4
  clear a5
  go_enter Tryd.func99, Tryd.ntmps99
  go_wp2
  go_ret
  exact ⟨rfl, rfl⟩
theorem turn_22 (x : UInt32) (w : World) : Calls Tryd.prog 82 #[.int .u32 (x.toNat : Int), .int .u64 22] w fun e w' => e = .returned (.int .u32 ((U3.rr x 22).toNat : Int)) ∧ w = w' := by
  have a2 : (x.toNat : Int) * 1024 % 4294967296 = ((U3.sl x 10).toNat : Int) := U3.shl' x 10 1024 (by decide) (by decide)
  have a3 : (x.toNat : Int) / 4194304 = ((U3.sr x 22).toNat : Int) := U3.shr_ x 22 4194304 (by decide) (by decide)
  have a4 := U3.or_ (U3.sr x 22) (U3.sl x 10)
  go_enter Tryd.func82, Tryd.ntmps82
  go_wp2
  go_ret
  exact ⟨rfl, rfl⟩
theorem rot_25 (x : UInt32) (w : World) : Calls Tryd.prog 99 #[.int .u32 (x.toNat : Int), .int .i64 (-25)] w fun e w' => e = .returned (.int .u32 ((U3.rr x 25).toNat : Int)) ∧ w = w' := by
  have a1 : bits .and .u64 (IntKind.u64.wrap (-25)) 31 = 7 := by decide
  have a2 : (x.toNat : Int) * 128 % 4294967296 = ((U3.sl x 7).toNat : Int) := U3.shl' x 7 128 (by decide) (by decide)
  have a3 : (x.toNat : Int) / 33554432 = ((U3.sr x 25).toNat : Int) := U3.shr_ x 25 33554432 (by decide) (by decide)
  have a4 := U3.or_ (U3.sl x 7) (U3.sr x 25)
  have a5 : U3.og (U3.sl x 7) (U3.sr x 25) = U3.rr x 25 := by unfold U3.rr U3.og; exact UInt32.or_comm _ _
  rw [a5] at a4
  clear a5
  go_enter Tryd.func99, Tryd.ntmps99
  go_wp2
  go_ret
  exact ⟨rfl, rfl⟩
theorem turn_25 (x : UInt32) (w : World) : Calls Tryd.prog 82 #[.int .u32 (x.toNat : Int), .int .u64 25] w fun e w' => e = .returned (.int .u32 ((U3.rr x 25).toNat : Int)) ∧ w = w' := by
  have a2 : (x.toNat : Int) * 128 % 4294967296 = ((U3.sl x 7).toNat : Int) := U3.shl' x 7 128 (by decide) (by decide)
  have a3 : (x.toNat : Int) / 33554432 = ((U3.sr x 25).toNat : Int) := U3.shr_ x 25 33554432 (by decide) (by decide)
  have a4 := U3.or_ (U3.sr x 25) (U3.sl x 7)
  go_enter Tryd.func82, Tryd.ntmps82
  go_wp2
  go_ret
  exact ⟨rfl, rfl⟩
end Go.Proofs.YtcdljlaoedaliaaDoor

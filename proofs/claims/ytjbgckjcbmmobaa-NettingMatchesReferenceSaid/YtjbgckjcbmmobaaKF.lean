/- The contracts of chapter 39, first part -/
import Derived.Test.YtjbgckjcbmmobaaKD
import Derived.Test.YtjbgckjcbmmobaaKE
import Derived.Test.YtjbgckjcbmmobaaProg
set_option linter.unusedVariables false
set_option linter.unusedSimpArgs false
/- Facts about the types, written by facts.py. -/
set_option maxRecDepth 100000
namespace Go.Proofs.Ytjbgckjcbmmobaa
open Go.Vai Go Go.Proofs
@[go_sem] theorem tund_0 : tund Try.prog 0 = true := by kernel_rfl
@[go_sem] theorem tsz_0 : tsz Try.prog 0 = 1 := by kernel_rfl
@[go_sem] theorem tel_0 : tel Try.prog 0 = (none : Option TypeId) := by kernel_rfl
@[go_sem] theorem tarr_0 : tarr Try.prog 0 = (none : Option (Nat × TypeId)) := by kernel_rfl
@[go_sem] theorem tfld_0 : tfld Try.prog 0 = (none : Option (List (Nat × TypeId))) := by kernel_rfl
@[go_sem] theorem tint_0 : tint Try.prog 0 = (none : Option IntKind) := by kernel_rfl
@[go_sem] theorem tstr_0 : tstr Try.prog 0 = false := by kernel_rfl
@[go_sem] theorem tagg_0 : tagg Try.prog 0 = (some false : Option Bool) := by kernel_rfl
@[go_sem] theorem tby_0 : tby Try.prog 0 = 0 := by kernel_rfl
@[go_sem] theorem tkind_0 : tkind Try.prog 0 = (none : Option Nat) := by kernel_rfl
@[go_sem] theorem teq_0 : teq Try.prog 0 = (none : Option (List Nat)) := by kernel_rfl
@[go_sem] theorem tzA_0 : tzA Try.prog 0 = (some (AV.tup []) : Option AV) := by kernel_rfl
@[go_sem] theorem tund_1 : tund Try.prog 1 = true := by kernel_rfl
@[go_sem] theorem tsz_1 : tsz Try.prog 1 = 1 := by kernel_rfl
@[go_sem] theorem tel_1 : tel Try.prog 1 = (none : Option TypeId) := by kernel_rfl
@[go_sem] theorem tarr_1 : tarr Try.prog 1 = (none : Option (Nat × TypeId)) := by kernel_rfl
@[go_sem] theorem tfld_1 : tfld Try.prog 1 = (none : Option (List (Nat × TypeId))) := by kernel_rfl
@[go_sem] theorem tint_1 : tint Try.prog 1 = (none : Option IntKind) := by kernel_rfl
@[go_sem] theorem tstr_1 : tstr Try.prog 1 = false := by kernel_rfl
@[go_sem] theorem tagg_1 : tagg Try.prog 1 = (some false : Option Bool) := by kernel_rfl
@[go_sem] theorem tby_1 : tby Try.prog 1 = 8 := by kernel_rfl
@[go_sem] theorem tkind_1 : tkind Try.prog 1 = (none : Option Nat) := by kernel_rfl
@[go_sem] theorem teq_1 : teq Try.prog 1 = (none : Option (List Nat)) := by kernel_rfl
@[go_sem] theorem tzA_1 : tzA Try.prog 1 = (some (AV.v Value.nilFunc) : Option AV) := by kernel_rfl
@[go_sem] theorem tund_2 : tund Try.prog 2 = true := by kernel_rfl
@[go_sem] theorem tsz_2 : tsz Try.prog 2 = 1 := by kernel_rfl
@[go_sem] theorem tel_2 : tel Try.prog 2 = (none : Option TypeId) := by kernel_rfl
@[go_sem] theorem tarr_2 : tarr Try.prog 2 = (none : Option (Nat × TypeId)) := by kernel_rfl
@[go_sem] theorem tfld_2 : tfld Try.prog 2 = (none : Option (List (Nat × TypeId))) := by kernel_rfl
@[go_sem] theorem tint_2 : tint Try.prog 2 = (some IntKind.i64 : Option IntKind) := by kernel_rfl
@[go_sem] theorem tstr_2 : tstr Try.prog 2 = false := by kernel_rfl
@[go_sem] theorem tagg_2 : tagg Try.prog 2 = (some false : Option Bool) := by kernel_rfl
@[go_sem] theorem tby_2 : tby Try.prog 2 = 8 := by kernel_rfl
@[go_sem] theorem tkind_2 : tkind Try.prog 2 = (some 0 : Option Nat) := by kernel_rfl
@[go_sem] theorem teq_2 : teq Try.prog 2 = (none : Option (List Nat)) := by kernel_rfl
@[go_sem] theorem tzA_2 : tzA Try.prog 2 = (some (AV.v (Value.int IntKind.i64 (0))) : Option AV) := by kernel_rfl
@[go_sem] theorem tund_3 : tund Try.prog 3 = true := by kernel_rfl
@[go_sem] theorem tsz_3 : tsz Try.prog 3 = 1 := by kernel_rfl
@[go_sem] theorem tel_3 : tel Try.prog 3 = (none : Option TypeId) := by kernel_rfl
@[go_sem] theorem tarr_3 : tarr Try.prog 3 = (none : Option (Nat × TypeId)) := by kernel_rfl
@[go_sem] theorem tfld_3 : tfld Try.prog 3 = (none : Option (List (Nat × TypeId))) := by kernel_rfl
@[go_sem] theorem tint_3 : tint Try.prog 3 = (some IntKind.i64 : Option IntKind) := by kernel_rfl
@[go_sem] theorem tstr_3 : tstr Try.prog 3 = false := by kernel_rfl
@[go_sem] theorem tagg_3 : tagg Try.prog 3 = (some false : Option Bool) := by kernel_rfl
@[go_sem] theorem tby_3 : tby Try.prog 3 = 8 := by kernel_rfl
@[go_sem] theorem tkind_3 : tkind Try.prog 3 = (some 0 : Option Nat) := by kernel_rfl
@[go_sem] theorem teq_3 : teq Try.prog 3 = (none : Option (List Nat)) := by kernel_rfl
@[go_sem] theorem tzA_3 : tzA Try.prog 3 = (some (AV.v (Value.int IntKind.i64 (0))) : Option AV) := by kernel_rfl
@[go_sem] theorem tund_4 : tund Try.prog 4 = true := by kernel_rfl
@[go_sem] theorem tsz_4 : tsz Try.prog 4 = 1 := by kernel_rfl
@[go_sem] theorem tel_4 : tel Try.prog 4 = (none : Option TypeId) := by kernel_rfl
@[go_sem] theorem tarr_4 : tarr Try.prog 4 = (none : Option (Nat × TypeId)) := by kernel_rfl
@[go_sem] theorem tfld_4 : tfld Try.prog 4 = (none : Option (List (Nat × TypeId))) := by kernel_rfl
@[go_sem] theorem tint_4 : tint Try.prog 4 = (none : Option IntKind) := by kernel_rfl
@[go_sem] theorem tstr_4 : tstr Try.prog 4 = false := by kernel_rfl
@[go_sem] theorem tagg_4 : tagg Try.prog 4 = (some false : Option Bool) := by kernel_rfl
@[go_sem] theorem tby_4 : tby Try.prog 4 = 1 := by kernel_rfl
@[go_sem] theorem tkind_4 : tkind Try.prog 4 = (some 1 : Option Nat) := by kernel_rfl
@[go_sem] theorem teq_4 : teq Try.prog 4 = (none : Option (List Nat)) := by kernel_rfl
@[go_sem] theorem tzA_4 : tzA Try.prog 4 = (some (AV.v (Value.bool false)) : Option AV) := by kernel_rfl
@[go_sem] theorem tund_5 : tund Try.prog 5 = true := by kernel_rfl
@[go_sem] theorem tsz_5 : tsz Try.prog 5 = 1 := by kernel_rfl
@[go_sem] theorem tel_5 : tel Try.prog 5 = (none : Option TypeId) := by kernel_rfl
@[go_sem] theorem tarr_5 : tarr Try.prog 5 = (none : Option (Nat × TypeId)) := by kernel_rfl
@[go_sem] theorem tfld_5 : tfld Try.prog 5 = (none : Option (List (Nat × TypeId))) := by kernel_rfl
@[go_sem] theorem tint_5 : tint Try.prog 5 = (some IntKind.u8 : Option IntKind) := by kernel_rfl
@[go_sem] theorem tstr_5 : tstr Try.prog 5 = false := by kernel_rfl
@[go_sem] theorem tagg_5 : tagg Try.prog 5 = (some false : Option Bool) := by kernel_rfl
@[go_sem] theorem tby_5 : tby Try.prog 5 = 1 := by kernel_rfl
@[go_sem] theorem tkind_5 : tkind Try.prog 5 = (some 0 : Option Nat) := by kernel_rfl
@[go_sem] theorem teq_5 : teq Try.prog 5 = (none : Option (List Nat)) := by kernel_rfl
@[go_sem] theorem tzA_5 : tzA Try.prog 5 = (some (AV.v (Value.int IntKind.u8 (0))) : Option AV) := by kernel_rfl
@[go_sem] theorem tund_6 : tund Try.prog 6 = true := by kernel_rfl
@[go_sem] theorem tsz_6 : tsz Try.prog 6 = 1 := by kernel_rfl
@[go_sem] theorem tel_6 : tel Try.prog 6 = (none : Option TypeId) := by kernel_rfl
@[go_sem] theorem tarr_6 : tarr Try.prog 6 = (none : Option (Nat × TypeId)) := by kernel_rfl
@[go_sem] theorem tfld_6 : tfld Try.prog 6 = (none : Option (List (Nat × TypeId))) := by kernel_rfl
@[go_sem] theorem tint_6 : tint Try.prog 6 = (some IntKind.u8 : Option IntKind) := by kernel_rfl
@[go_sem] theorem tstr_6 : tstr Try.prog 6 = false := by kernel_rfl
@[go_sem] theorem tagg_6 : tagg Try.prog 6 = (some false : Option Bool) := by kernel_rfl
@[go_sem] theorem tby_6 : tby Try.prog 6 = 1 := by kernel_rfl
@[go_sem] theorem tkind_6 : tkind Try.prog 6 = (some 0 : Option Nat) := by kernel_rfl
@[go_sem] theorem teq_6 : teq Try.prog 6 = (none : Option (List Nat)) := by kernel_rfl
@[go_sem] theorem tzA_6 : tzA Try.prog 6 = (some (AV.v (Value.int IntKind.u8 (0))) : Option AV) := by kernel_rfl
@[go_sem] theorem tund_7 : tund Try.prog 7 = true := by kernel_rfl
@[go_sem] theorem tsz_7 : tsz Try.prog 7 = 4 := by kernel_rfl
@[go_sem] theorem tel_7 : tel Try.prog 7 = (none : Option TypeId) := by kernel_rfl
@[go_sem] theorem tarr_7 : tarr Try.prog 7 = (none : Option (Nat × TypeId)) := by kernel_rfl
@[go_sem] theorem tfld_7 : tfld Try.prog 7 = (some [(0, 2), (1, 3), (2, 4), (3, 6)] : Option (List (Nat × TypeId))) := by kernel_rfl
@[go_sem] theorem tint_7 : tint Try.prog 7 = (none : Option IntKind) := by kernel_rfl
@[go_sem] theorem tstr_7 : tstr Try.prog 7 = false := by kernel_rfl
@[go_sem] theorem tagg_7 : tagg Try.prog 7 = (some true : Option Bool) := by kernel_rfl
@[go_sem] theorem tby_7 : tby Try.prog 7 = 24 := by kernel_rfl
@[go_sem] theorem tkind_7 : tkind Try.prog 7 = (none : Option Nat) := by kernel_rfl
@[go_sem] theorem teq_7 : teq Try.prog 7 = (some [0, 0, 1, 0] : Option (List Nat)) := by kernel_rfl
@[go_sem] theorem tzA_7 : tzA Try.prog 7 = (some (AV.agg [AV.v (Value.int IntKind.i64 (0)), AV.v (Value.int IntKind.i64 (0)), AV.v (Value.bool false), AV.v (Value.int IntKind.u8 (0))]) : Option AV) := by kernel_rfl
@[go_sem] theorem tund_8 : tund Try.prog 8 = true := by kernel_rfl
@[go_sem] theorem tsz_8 : tsz Try.prog 8 = 4 := by kernel_rfl
@[go_sem] theorem tel_8 : tel Try.prog 8 = (none : Option TypeId) := by kernel_rfl
@[go_sem] theorem tarr_8 : tarr Try.prog 8 = (none : Option (Nat × TypeId)) := by kernel_rfl
@[go_sem] theorem tfld_8 : tfld Try.prog 8 = (some [(0, 2), (1, 3), (2, 4), (3, 6)] : Option (List (Nat × TypeId))) := by kernel_rfl
@[go_sem] theorem tint_8 : tint Try.prog 8 = (none : Option IntKind) := by kernel_rfl
@[go_sem] theorem tstr_8 : tstr Try.prog 8 = false := by kernel_rfl
@[go_sem] theorem tagg_8 : tagg Try.prog 8 = (some true : Option Bool) := by kernel_rfl
@[go_sem] theorem tby_8 : tby Try.prog 8 = 24 := by kernel_rfl
@[go_sem] theorem tkind_8 : tkind Try.prog 8 = (none : Option Nat) := by kernel_rfl
@[go_sem] theorem teq_8 : teq Try.prog 8 = (some [0, 0, 1, 0] : Option (List Nat)) := by kernel_rfl
@[go_sem] theorem tzA_8 : tzA Try.prog 8 = (some (AV.agg [AV.v (Value.int IntKind.i64 (0)), AV.v (Value.int IntKind.i64 (0)), AV.v (Value.bool false), AV.v (Value.int IntKind.u8 (0))]) : Option AV) := by kernel_rfl
@[go_sem] theorem tund_9 : tund Try.prog 9 = true := by kernel_rfl
@[go_sem] theorem tsz_9 : tsz Try.prog 9 = 1 := by kernel_rfl
@[go_sem] theorem tel_9 : tel Try.prog 9 = (none : Option TypeId) := by kernel_rfl
@[go_sem] theorem tarr_9 : tarr Try.prog 9 = (none : Option (Nat × TypeId)) := by kernel_rfl
@[go_sem] theorem tfld_9 : tfld Try.prog 9 = (none : Option (List (Nat × TypeId))) := by kernel_rfl
@[go_sem] theorem tint_9 : tint Try.prog 9 = (none : Option IntKind) := by kernel_rfl
@[go_sem] theorem tstr_9 : tstr Try.prog 9 = true := by kernel_rfl
@[go_sem] theorem tagg_9 : tagg Try.prog 9 = (some false : Option Bool) := by kernel_rfl
@[go_sem] theorem tby_9 : tby Try.prog 9 = 16 := by kernel_rfl
@[go_sem] theorem tkind_9 : tkind Try.prog 9 = (some 2 : Option Nat) := by kernel_rfl
@[go_sem] theorem teq_9 : teq Try.prog 9 = (none : Option (List Nat)) := by kernel_rfl
@[go_sem] theorem tzA_9 : tzA Try.prog 9 = (some (AV.v (Value.string ByteArray.empty)) : Option AV) := by kernel_rfl
@[go_sem] theorem tund_10 : tund Try.prog 10 = true := by kernel_rfl
@[go_sem] theorem tsz_10 : tsz Try.prog 10 = 1 := by kernel_rfl
@[go_sem] theorem tel_10 : tel Try.prog 10 = (none : Option TypeId) := by kernel_rfl
@[go_sem] theorem tarr_10 : tarr Try.prog 10 = (none : Option (Nat × TypeId)) := by kernel_rfl
@[go_sem] theorem tfld_10 : tfld Try.prog 10 = (none : Option (List (Nat × TypeId))) := by kernel_rfl
@[go_sem] theorem tint_10 : tint Try.prog 10 = (none : Option IntKind) := by kernel_rfl
@[go_sem] theorem tstr_10 : tstr Try.prog 10 = true := by kernel_rfl
@[go_sem] theorem tagg_10 : tagg Try.prog 10 = (some false : Option Bool) := by kernel_rfl
@[go_sem] theorem tby_10 : tby Try.prog 10 = 16 := by kernel_rfl
@[go_sem] theorem tkind_10 : tkind Try.prog 10 = (some 2 : Option Nat) := by kernel_rfl
@[go_sem] theorem teq_10 : teq Try.prog 10 = (none : Option (List Nat)) := by kernel_rfl
@[go_sem] theorem tzA_10 : tzA Try.prog 10 = (some (AV.v (Value.string ByteArray.empty)) : Option AV) := by kernel_rfl
@[go_sem] theorem tund_11 : tund Try.prog 11 = true := by kernel_rfl
@[go_sem] theorem tsz_11 : tsz Try.prog 11 = 1 := by kernel_rfl
@[go_sem] theorem tel_11 : tel Try.prog 11 = (none : Option TypeId) := by kernel_rfl
@[go_sem] theorem tarr_11 : tarr Try.prog 11 = (none : Option (Nat × TypeId)) := by kernel_rfl
@[go_sem] theorem tfld_11 : tfld Try.prog 11 = (none : Option (List (Nat × TypeId))) := by kernel_rfl
@[go_sem] theorem tint_11 : tint Try.prog 11 = (none : Option IntKind) := by kernel_rfl
@[go_sem] theorem tstr_11 : tstr Try.prog 11 = true := by kernel_rfl
@[go_sem] theorem tagg_11 : tagg Try.prog 11 = (some false : Option Bool) := by kernel_rfl
@[go_sem] theorem tby_11 : tby Try.prog 11 = 16 := by kernel_rfl
@[go_sem] theorem tkind_11 : tkind Try.prog 11 = (some 2 : Option Nat) := by kernel_rfl
@[go_sem] theorem teq_11 : teq Try.prog 11 = (none : Option (List Nat)) := by kernel_rfl
@[go_sem] theorem tzA_11 : tzA Try.prog 11 = (some (AV.v (Value.string ByteArray.empty)) : Option AV) := by kernel_rfl
@[go_sem] theorem tund_12 : tund Try.prog 12 = true := by kernel_rfl
@[go_sem] theorem tsz_12 : tsz Try.prog 12 = 1 := by kernel_rfl
@[go_sem] theorem tel_12 : tel Try.prog 12 = (none : Option TypeId) := by kernel_rfl
@[go_sem] theorem tarr_12 : tarr Try.prog 12 = (none : Option (Nat × TypeId)) := by kernel_rfl
@[go_sem] theorem tfld_12 : tfld Try.prog 12 = (none : Option (List (Nat × TypeId))) := by kernel_rfl
@[go_sem] theorem tint_12 : tint Try.prog 12 = (some IntKind.u64 : Option IntKind) := by kernel_rfl
@[go_sem] theorem tstr_12 : tstr Try.prog 12 = false := by kernel_rfl
@[go_sem] theorem tagg_12 : tagg Try.prog 12 = (some false : Option Bool) := by kernel_rfl
@[go_sem] theorem tby_12 : tby Try.prog 12 = 8 := by kernel_rfl
@[go_sem] theorem tkind_12 : tkind Try.prog 12 = (some 0 : Option Nat) := by kernel_rfl
@[go_sem] theorem teq_12 : teq Try.prog 12 = (none : Option (List Nat)) := by kernel_rfl
@[go_sem] theorem tzA_12 : tzA Try.prog 12 = (some (AV.v (Value.int IntKind.u64 (0))) : Option AV) := by kernel_rfl
@[go_sem] theorem tund_13 : tund Try.prog 13 = true := by kernel_rfl
@[go_sem] theorem tsz_13 : tsz Try.prog 13 = 2 := by kernel_rfl
@[go_sem] theorem tel_13 : tel Try.prog 13 = (none : Option TypeId) := by kernel_rfl
@[go_sem] theorem tarr_13 : tarr Try.prog 13 = (none : Option (Nat × TypeId)) := by kernel_rfl
@[go_sem] theorem tfld_13 : tfld Try.prog 13 = (some [(0, 9), (1, 12)] : Option (List (Nat × TypeId))) := by kernel_rfl
@[go_sem] theorem tint_13 : tint Try.prog 13 = (none : Option IntKind) := by kernel_rfl
@[go_sem] theorem tstr_13 : tstr Try.prog 13 = false := by kernel_rfl
@[go_sem] theorem tagg_13 : tagg Try.prog 13 = (some true : Option Bool) := by kernel_rfl
@[go_sem] theorem tby_13 : tby Try.prog 13 = 24 := by kernel_rfl
@[go_sem] theorem tkind_13 : tkind Try.prog 13 = (none : Option Nat) := by kernel_rfl
@[go_sem] theorem teq_13 : teq Try.prog 13 = (none : Option (List Nat)) := by kernel_rfl
@[go_sem] theorem tzA_13 : tzA Try.prog 13 = (some (AV.agg [AV.v (Value.string ByteArray.empty), AV.v (Value.int IntKind.u64 (0))]) : Option AV) := by kernel_rfl
@[go_sem] theorem tund_14 : tund Try.prog 14 = true := by kernel_rfl
@[go_sem] theorem tsz_14 : tsz Try.prog 14 = 2 := by kernel_rfl
@[go_sem] theorem tel_14 : tel Try.prog 14 = (none : Option TypeId) := by kernel_rfl
@[go_sem] theorem tarr_14 : tarr Try.prog 14 = (none : Option (Nat × TypeId)) := by kernel_rfl
@[go_sem] theorem tfld_14 : tfld Try.prog 14 = (some [(0, 9), (1, 12)] : Option (List (Nat × TypeId))) := by kernel_rfl
@[go_sem] theorem tint_14 : tint Try.prog 14 = (none : Option IntKind) := by kernel_rfl
@[go_sem] theorem tstr_14 : tstr Try.prog 14 = false := by kernel_rfl
@[go_sem] theorem tagg_14 : tagg Try.prog 14 = (some true : Option Bool) := by kernel_rfl
@[go_sem] theorem tby_14 : tby Try.prog 14 = 24 := by kernel_rfl
@[go_sem] theorem tkind_14 : tkind Try.prog 14 = (none : Option Nat) := by kernel_rfl
@[go_sem] theorem teq_14 : teq Try.prog 14 = (none : Option (List Nat)) := by kernel_rfl
@[go_sem] theorem tzA_14 : tzA Try.prog 14 = (some (AV.agg [AV.v (Value.string ByteArray.empty), AV.v (Value.int IntKind.u64 (0))]) : Option AV) := by kernel_rfl
@[go_sem] theorem tund_15 : tund Try.prog 15 = true := by kernel_rfl
@[go_sem] theorem tsz_15 : tsz Try.prog 15 = 1 := by kernel_rfl
@[go_sem] theorem tel_15 : tel Try.prog 15 = (none : Option TypeId) := by kernel_rfl
@[go_sem] theorem tarr_15 : tarr Try.prog 15 = (none : Option (Nat × TypeId)) := by kernel_rfl
@[go_sem] theorem tfld_15 : tfld Try.prog 15 = (none : Option (List (Nat × TypeId))) := by kernel_rfl
@[go_sem] theorem tint_15 : tint Try.prog 15 = (none : Option IntKind) := by kernel_rfl
@[go_sem] theorem tstr_15 : tstr Try.prog 15 = false := by kernel_rfl
@[go_sem] theorem tagg_15 : tagg Try.prog 15 = (some false : Option Bool) := by kernel_rfl
@[go_sem] theorem tby_15 : tby Try.prog 15 = 8 := by kernel_rfl
@[go_sem] theorem tkind_15 : tkind Try.prog 15 = (none : Option Nat) := by kernel_rfl
@[go_sem] theorem teq_15 : teq Try.prog 15 = (none : Option (List Nat)) := by kernel_rfl
@[go_sem] theorem tzA_15 : tzA Try.prog 15 = (some (AV.v (Value.pointer none)) : Option AV) := by kernel_rfl
@[go_sem] theorem tund_16 : tund Try.prog 16 = true := by kernel_rfl
@[go_sem] theorem tsz_16 : tsz Try.prog 16 = 1 := by kernel_rfl
@[go_sem] theorem tel_16 : tel Try.prog 16 = (none : Option TypeId) := by kernel_rfl
@[go_sem] theorem tarr_16 : tarr Try.prog 16 = (none : Option (Nat × TypeId)) := by kernel_rfl
@[go_sem] theorem tfld_16 : tfld Try.prog 16 = (none : Option (List (Nat × TypeId))) := by kernel_rfl
@[go_sem] theorem tint_16 : tint Try.prog 16 = (none : Option IntKind) := by kernel_rfl
@[go_sem] theorem tstr_16 : tstr Try.prog 16 = false := by kernel_rfl
@[go_sem] theorem tagg_16 : tagg Try.prog 16 = (some false : Option Bool) := by kernel_rfl
@[go_sem] theorem tby_16 : tby Try.prog 16 = 8 := by kernel_rfl
@[go_sem] theorem tkind_16 : tkind Try.prog 16 = (none : Option Nat) := by kernel_rfl
@[go_sem] theorem teq_16 : teq Try.prog 16 = (none : Option (List Nat)) := by kernel_rfl
@[go_sem] theorem tzA_16 : tzA Try.prog 16 = (some (AV.v (Value.pointer none)) : Option AV) := by kernel_rfl
@[go_sem] theorem tund_17 : tund Try.prog 17 = true := by kernel_rfl
@[go_sem] theorem tsz_17 : tsz Try.prog 17 = 1 := by kernel_rfl
@[go_sem] theorem tel_17 : tel Try.prog 17 = (none : Option TypeId) := by kernel_rfl
@[go_sem] theorem tarr_17 : tarr Try.prog 17 = (none : Option (Nat × TypeId)) := by kernel_rfl
@[go_sem] theorem tfld_17 : tfld Try.prog 17 = (none : Option (List (Nat × TypeId))) := by kernel_rfl
@[go_sem] theorem tint_17 : tint Try.prog 17 = (none : Option IntKind) := by kernel_rfl
@[go_sem] theorem tstr_17 : tstr Try.prog 17 = false := by kernel_rfl
@[go_sem] theorem tagg_17 : tagg Try.prog 17 = (some false : Option Bool) := by kernel_rfl
@[go_sem] theorem tby_17 : tby Try.prog 17 = 8 := by kernel_rfl
@[go_sem] theorem tkind_17 : tkind Try.prog 17 = (none : Option Nat) := by kernel_rfl
@[go_sem] theorem teq_17 : teq Try.prog 17 = (none : Option (List Nat)) := by kernel_rfl
@[go_sem] theorem tzA_17 : tzA Try.prog 17 = (some (AV.v (Value.pointer none)) : Option AV) := by kernel_rfl
@[go_sem] theorem tund_18 : tund Try.prog 18 = true := by kernel_rfl
@[go_sem] theorem tsz_18 : tsz Try.prog 18 = 1 := by kernel_rfl
@[go_sem] theorem tel_18 : tel Try.prog 18 = (none : Option TypeId) := by kernel_rfl
@[go_sem] theorem tarr_18 : tarr Try.prog 18 = (none : Option (Nat × TypeId)) := by kernel_rfl
@[go_sem] theorem tfld_18 : tfld Try.prog 18 = (some [(0, 17)] : Option (List (Nat × TypeId))) := by kernel_rfl
@[go_sem] theorem tint_18 : tint Try.prog 18 = (none : Option IntKind) := by kernel_rfl
@[go_sem] theorem tstr_18 : tstr Try.prog 18 = false := by kernel_rfl
@[go_sem] theorem tagg_18 : tagg Try.prog 18 = (some true : Option Bool) := by kernel_rfl
@[go_sem] theorem tby_18 : tby Try.prog 18 = 8 := by kernel_rfl
@[go_sem] theorem tkind_18 : tkind Try.prog 18 = (none : Option Nat) := by kernel_rfl
@[go_sem] theorem teq_18 : teq Try.prog 18 = (none : Option (List Nat)) := by kernel_rfl
@[go_sem] theorem tzA_18 : tzA Try.prog 18 = (some (AV.agg [AV.v (Value.pointer none)]) : Option AV) := by kernel_rfl
@[go_sem] theorem tund_19 : tund Try.prog 19 = true := by kernel_rfl
@[go_sem] theorem tsz_19 : tsz Try.prog 19 = 1 := by kernel_rfl
@[go_sem] theorem tel_19 : tel Try.prog 19 = (none : Option TypeId) := by kernel_rfl
@[go_sem] theorem tarr_19 : tarr Try.prog 19 = (none : Option (Nat × TypeId)) := by kernel_rfl
@[go_sem] theorem tfld_19 : tfld Try.prog 19 = (some [(0, 17)] : Option (List (Nat × TypeId))) := by kernel_rfl
@[go_sem] theorem tint_19 : tint Try.prog 19 = (none : Option IntKind) := by kernel_rfl
@[go_sem] theorem tstr_19 : tstr Try.prog 19 = false := by kernel_rfl
@[go_sem] theorem tagg_19 : tagg Try.prog 19 = (some true : Option Bool) := by kernel_rfl
@[go_sem] theorem tby_19 : tby Try.prog 19 = 8 := by kernel_rfl
@[go_sem] theorem tkind_19 : tkind Try.prog 19 = (none : Option Nat) := by kernel_rfl
@[go_sem] theorem teq_19 : teq Try.prog 19 = (none : Option (List Nat)) := by kernel_rfl
@[go_sem] theorem tzA_19 : tzA Try.prog 19 = (some (AV.agg [AV.v (Value.pointer none)]) : Option AV) := by kernel_rfl
@[go_sem] theorem tund_20 : tund Try.prog 20 = true := by kernel_rfl
@[go_sem] theorem tsz_20 : tsz Try.prog 20 = 1 := by kernel_rfl
@[go_sem] theorem tel_20 : tel Try.prog 20 = (none : Option TypeId) := by kernel_rfl
@[go_sem] theorem tarr_20 : tarr Try.prog 20 = (none : Option (Nat × TypeId)) := by kernel_rfl
@[go_sem] theorem tfld_20 : tfld Try.prog 20 = (none : Option (List (Nat × TypeId))) := by kernel_rfl
@[go_sem] theorem tint_20 : tint Try.prog 20 = (none : Option IntKind) := by kernel_rfl
@[go_sem] theorem tstr_20 : tstr Try.prog 20 = false := by kernel_rfl
@[go_sem] theorem tagg_20 : tagg Try.prog 20 = (some false : Option Bool) := by kernel_rfl
@[go_sem] theorem tby_20 : tby Try.prog 20 = 16 := by kernel_rfl
@[go_sem] theorem tkind_20 : tkind Try.prog 20 = (none : Option Nat) := by kernel_rfl
@[go_sem] theorem teq_20 : teq Try.prog 20 = (none : Option (List Nat)) := by kernel_rfl
@[go_sem] theorem tzA_20 : tzA Try.prog 20 = (some (AV.v Value.nilIface) : Option AV) := by kernel_rfl
@[go_sem] theorem tund_21 : tund Try.prog 21 = true := by kernel_rfl
@[go_sem] theorem tsz_21 : tsz Try.prog 21 = 1 := by kernel_rfl
@[go_sem] theorem tel_21 : tel Try.prog 21 = (none : Option TypeId) := by kernel_rfl
@[go_sem] theorem tarr_21 : tarr Try.prog 21 = (none : Option (Nat × TypeId)) := by kernel_rfl
@[go_sem] theorem tfld_21 : tfld Try.prog 21 = (none : Option (List (Nat × TypeId))) := by kernel_rfl
@[go_sem] theorem tint_21 : tint Try.prog 21 = (some IntKind.i32 : Option IntKind) := by kernel_rfl
@[go_sem] theorem tstr_21 : tstr Try.prog 21 = false := by kernel_rfl
@[go_sem] theorem tagg_21 : tagg Try.prog 21 = (some false : Option Bool) := by kernel_rfl
@[go_sem] theorem tby_21 : tby Try.prog 21 = 4 := by kernel_rfl
@[go_sem] theorem tkind_21 : tkind Try.prog 21 = (some 0 : Option Nat) := by kernel_rfl
@[go_sem] theorem teq_21 : teq Try.prog 21 = (none : Option (List Nat)) := by kernel_rfl
@[go_sem] theorem tzA_21 : tzA Try.prog 21 = (some (AV.v (Value.int IntKind.i32 (0))) : Option AV) := by kernel_rfl
@[go_sem] theorem tund_22 : tund Try.prog 22 = true := by kernel_rfl
@[go_sem] theorem tsz_22 : tsz Try.prog 22 = 1 := by kernel_rfl
@[go_sem] theorem tz_22 : tz Try.prog 22 = some (Value.slice none 0 0) := by kernel_rfl
@[go_sem] theorem tel_22 : tel Try.prog 22 = (some 23 : Option TypeId) := by kernel_rfl
@[go_sem] theorem tarr_22 : tarr Try.prog 22 = (none : Option (Nat × TypeId)) := by kernel_rfl
@[go_sem] theorem tfld_22 : tfld Try.prog 22 = (none : Option (List (Nat × TypeId))) := by kernel_rfl
@[go_sem] theorem tint_22 : tint Try.prog 22 = (none : Option IntKind) := by kernel_rfl
@[go_sem] theorem tstr_22 : tstr Try.prog 22 = false := by kernel_rfl
@[go_sem] theorem tagg_22 : tagg Try.prog 22 = (some false : Option Bool) := by kernel_rfl
@[go_sem] theorem tby_22 : tby Try.prog 22 = 24 := by kernel_rfl
@[go_sem] theorem tkind_22 : tkind Try.prog 22 = (none : Option Nat) := by kernel_rfl
@[go_sem] theorem teq_22 : teq Try.prog 22 = (none : Option (List Nat)) := by kernel_rfl
@[go_sem] theorem tzA_22 : tzA Try.prog 22 = (some (AV.v (Value.slice none 0 0)) : Option AV) := by kernel_rfl
@[go_sem] theorem tund_23 : tund Try.prog 23 = true := by kernel_rfl
@[go_sem] theorem tsz_23 : tsz Try.prog 23 = 3 := by kernel_rfl
@[go_sem] theorem tel_23 : tel Try.prog 23 = (none : Option TypeId) := by kernel_rfl
@[go_sem] theorem tarr_23 : tarr Try.prog 23 = (some (3, 3) : Option (Nat × TypeId)) := by kernel_rfl
@[go_sem] theorem tfld_23 : tfld Try.prog 23 = (none : Option (List (Nat × TypeId))) := by kernel_rfl
@[go_sem] theorem tint_23 : tint Try.prog 23 = (none : Option IntKind) := by kernel_rfl
@[go_sem] theorem tstr_23 : tstr Try.prog 23 = false := by kernel_rfl
@[go_sem] theorem tagg_23 : tagg Try.prog 23 = (some true : Option Bool) := by kernel_rfl
@[go_sem] theorem tby_23 : tby Try.prog 23 = 24 := by kernel_rfl
@[go_sem] theorem tkind_23 : tkind Try.prog 23 = (none : Option Nat) := by kernel_rfl
@[go_sem] theorem teq_23 : teq Try.prog 23 = (none : Option (List Nat)) := by kernel_rfl
@[go_sem] theorem tzA_23 : tzA Try.prog 23 = (some (AV.agg [AV.v (Value.int IntKind.i64 (0)), AV.v (Value.int IntKind.i64 (0)), AV.v (Value.int IntKind.i64 (0))]) : Option AV) := by kernel_rfl
@[go_sem] theorem tund_24 : tund Try.prog 24 = true := by kernel_rfl
@[go_sem] theorem tsz_24 : tsz Try.prog 24 = 1 := by kernel_rfl
@[go_sem] theorem tz_24 : tz Try.prog 24 = some (Value.slice none 0 0) := by kernel_rfl
@[go_sem] theorem tel_24 : tel Try.prog 24 = (some 47 : Option TypeId) := by kernel_rfl
@[go_sem] theorem tarr_24 : tarr Try.prog 24 = (none : Option (Nat × TypeId)) := by kernel_rfl
@[go_sem] theorem tfld_24 : tfld Try.prog 24 = (none : Option (List (Nat × TypeId))) := by kernel_rfl
@[go_sem] theorem tint_24 : tint Try.prog 24 = (none : Option IntKind) := by kernel_rfl
@[go_sem] theorem tstr_24 : tstr Try.prog 24 = false := by kernel_rfl
@[go_sem] theorem tagg_24 : tagg Try.prog 24 = (some false : Option Bool) := by kernel_rfl
@[go_sem] theorem tby_24 : tby Try.prog 24 = 24 := by kernel_rfl
@[go_sem] theorem tkind_24 : tkind Try.prog 24 = (none : Option Nat) := by kernel_rfl
@[go_sem] theorem teq_24 : teq Try.prog 24 = (none : Option (List Nat)) := by kernel_rfl
@[go_sem] theorem tzA_24 : tzA Try.prog 24 = (some (AV.v (Value.slice none 0 0)) : Option AV) := by kernel_rfl
@[go_sem] theorem tund_25 : tund Try.prog 25 = true := by kernel_rfl
@[go_sem] theorem tsz_25 : tsz Try.prog 25 = 1 := by kernel_rfl
@[go_sem] theorem tz_25 : tz Try.prog 25 = some (Value.slice none 0 0) := by kernel_rfl
@[go_sem] theorem tel_25 : tel Try.prog 25 = (some 3 : Option TypeId) := by kernel_rfl
@[go_sem] theorem tarr_25 : tarr Try.prog 25 = (none : Option (Nat × TypeId)) := by kernel_rfl
@[go_sem] theorem tfld_25 : tfld Try.prog 25 = (none : Option (List (Nat × TypeId))) := by kernel_rfl
@[go_sem] theorem tint_25 : tint Try.prog 25 = (none : Option IntKind) := by kernel_rfl
@[go_sem] theorem tstr_25 : tstr Try.prog 25 = false := by kernel_rfl
@[go_sem] theorem tagg_25 : tagg Try.prog 25 = (some false : Option Bool) := by kernel_rfl
@[go_sem] theorem tby_25 : tby Try.prog 25 = 24 := by kernel_rfl
@[go_sem] theorem tkind_25 : tkind Try.prog 25 = (none : Option Nat) := by kernel_rfl
@[go_sem] theorem teq_25 : teq Try.prog 25 = (none : Option (List Nat)) := by kernel_rfl
@[go_sem] theorem tzA_25 : tzA Try.prog 25 = (some (AV.v (Value.slice none 0 0)) : Option AV) := by kernel_rfl
@[go_sem] theorem tund_26 : tund Try.prog 26 = true := by kernel_rfl
@[go_sem] theorem tsz_26 : tsz Try.prog 26 = 1 := by kernel_rfl
@[go_sem] theorem tel_26 : tel Try.prog 26 = (none : Option TypeId) := by kernel_rfl
@[go_sem] theorem tarr_26 : tarr Try.prog 26 = (none : Option (Nat × TypeId)) := by kernel_rfl
@[go_sem] theorem tfld_26 : tfld Try.prog 26 = (none : Option (List (Nat × TypeId))) := by kernel_rfl
@[go_sem] theorem tint_26 : tint Try.prog 26 = (none : Option IntKind) := by kernel_rfl
@[go_sem] theorem tstr_26 : tstr Try.prog 26 = false := by kernel_rfl
@[go_sem] theorem tagg_26 : tagg Try.prog 26 = (some false : Option Bool) := by kernel_rfl
@[go_sem] theorem tby_26 : tby Try.prog 26 = 8 := by kernel_rfl
@[go_sem] theorem tkind_26 : tkind Try.prog 26 = (none : Option Nat) := by kernel_rfl
@[go_sem] theorem teq_26 : teq Try.prog 26 = (none : Option (List Nat)) := by kernel_rfl
@[go_sem] theorem tzA_26 : tzA Try.prog 26 = (some (AV.v Value.nilFunc) : Option AV) := by kernel_rfl
@[go_sem] theorem tund_27 : tund Try.prog 27 = true := by kernel_rfl
@[go_sem] theorem tsz_27 : tsz Try.prog 27 = 1 := by kernel_rfl
@[go_sem] theorem tel_27 : tel Try.prog 27 = (none : Option TypeId) := by kernel_rfl
@[go_sem] theorem tarr_27 : tarr Try.prog 27 = (none : Option (Nat × TypeId)) := by kernel_rfl
@[go_sem] theorem tfld_27 : tfld Try.prog 27 = (none : Option (List (Nat × TypeId))) := by kernel_rfl
@[go_sem] theorem tint_27 : tint Try.prog 27 = (none : Option IntKind) := by kernel_rfl
@[go_sem] theorem tstr_27 : tstr Try.prog 27 = false := by kernel_rfl
@[go_sem] theorem tagg_27 : tagg Try.prog 27 = (some false : Option Bool) := by kernel_rfl
@[go_sem] theorem tby_27 : tby Try.prog 27 = 8 := by kernel_rfl
@[go_sem] theorem tkind_27 : tkind Try.prog 27 = (none : Option Nat) := by kernel_rfl
@[go_sem] theorem teq_27 : teq Try.prog 27 = (none : Option (List Nat)) := by kernel_rfl
@[go_sem] theorem tzA_27 : tzA Try.prog 27 = (some (AV.v Value.nilFunc) : Option AV) := by kernel_rfl
@[go_sem] theorem tund_28 : tund Try.prog 28 = true := by kernel_rfl
@[go_sem] theorem tsz_28 : tsz Try.prog 28 = 1 := by kernel_rfl
@[go_sem] theorem tel_28 : tel Try.prog 28 = (none : Option TypeId) := by kernel_rfl
@[go_sem] theorem tarr_28 : tarr Try.prog 28 = (none : Option (Nat × TypeId)) := by kernel_rfl
@[go_sem] theorem tfld_28 : tfld Try.prog 28 = (none : Option (List (Nat × TypeId))) := by kernel_rfl
@[go_sem] theorem tint_28 : tint Try.prog 28 = (none : Option IntKind) := by kernel_rfl
@[go_sem] theorem tstr_28 : tstr Try.prog 28 = false := by kernel_rfl
@[go_sem] theorem tagg_28 : tagg Try.prog 28 = (some false : Option Bool) := by kernel_rfl
@[go_sem] theorem tby_28 : tby Try.prog 28 = 8 := by kernel_rfl
@[go_sem] theorem tkind_28 : tkind Try.prog 28 = (none : Option Nat) := by kernel_rfl
@[go_sem] theorem teq_28 : teq Try.prog 28 = (none : Option (List Nat)) := by kernel_rfl
@[go_sem] theorem tzA_28 : tzA Try.prog 28 = (some (AV.v Value.nilFunc) : Option AV) := by kernel_rfl
@[go_sem] theorem tund_29 : tund Try.prog 29 = true := by kernel_rfl
@[go_sem] theorem tsz_29 : tsz Try.prog 29 = 1 := by kernel_rfl
@[go_sem] theorem tz_29 : tz Try.prog 29 = some (Value.slice none 0 0) := by kernel_rfl
@[go_sem] theorem tel_29 : tel Try.prog 29 = (some 24 : Option TypeId) := by kernel_rfl
@[go_sem] theorem tarr_29 : tarr Try.prog 29 = (none : Option (Nat × TypeId)) := by kernel_rfl
@[go_sem] theorem tfld_29 : tfld Try.prog 29 = (none : Option (List (Nat × TypeId))) := by kernel_rfl
@[go_sem] theorem tint_29 : tint Try.prog 29 = (none : Option IntKind) := by kernel_rfl
@[go_sem] theorem tstr_29 : tstr Try.prog 29 = false := by kernel_rfl
@[go_sem] theorem tagg_29 : tagg Try.prog 29 = (some false : Option Bool) := by kernel_rfl
@[go_sem] theorem tby_29 : tby Try.prog 29 = 24 := by kernel_rfl
@[go_sem] theorem tkind_29 : tkind Try.prog 29 = (none : Option Nat) := by kernel_rfl
@[go_sem] theorem teq_29 : teq Try.prog 29 = (none : Option (List Nat)) := by kernel_rfl
@[go_sem] theorem tzA_29 : tzA Try.prog 29 = (some (AV.v (Value.slice none 0 0)) : Option AV) := by kernel_rfl
@[go_sem] theorem tund_30 : tund Try.prog 30 = true := by kernel_rfl
@[go_sem] theorem tsz_30 : tsz Try.prog 30 = 1 := by kernel_rfl
@[go_sem] theorem tel_30 : tel Try.prog 30 = (none : Option TypeId) := by kernel_rfl
@[go_sem] theorem tarr_30 : tarr Try.prog 30 = (none : Option (Nat × TypeId)) := by kernel_rfl
@[go_sem] theorem tfld_30 : tfld Try.prog 30 = (none : Option (List (Nat × TypeId))) := by kernel_rfl
@[go_sem] theorem tint_30 : tint Try.prog 30 = (some IntKind.i64 : Option IntKind) := by kernel_rfl
@[go_sem] theorem tstr_30 : tstr Try.prog 30 = false := by kernel_rfl
@[go_sem] theorem tagg_30 : tagg Try.prog 30 = (some false : Option Bool) := by kernel_rfl
@[go_sem] theorem tby_30 : tby Try.prog 30 = 8 := by kernel_rfl
@[go_sem] theorem tkind_30 : tkind Try.prog 30 = (some 0 : Option Nat) := by kernel_rfl
@[go_sem] theorem teq_30 : teq Try.prog 30 = (none : Option (List Nat)) := by kernel_rfl
@[go_sem] theorem tzA_30 : tzA Try.prog 30 = (some (AV.v (Value.int IntKind.i64 (0))) : Option AV) := by kernel_rfl
@[go_sem] theorem tund_31 : tund Try.prog 31 = true := by kernel_rfl
@[go_sem] theorem tsz_31 : tsz Try.prog 31 = 1 := by kernel_rfl
@[go_sem] theorem tel_31 : tel Try.prog 31 = (none : Option TypeId) := by kernel_rfl
@[go_sem] theorem tarr_31 : tarr Try.prog 31 = (none : Option (Nat × TypeId)) := by kernel_rfl
@[go_sem] theorem tfld_31 : tfld Try.prog 31 = (none : Option (List (Nat × TypeId))) := by kernel_rfl
@[go_sem] theorem tint_31 : tint Try.prog 31 = (none : Option IntKind) := by kernel_rfl
@[go_sem] theorem tstr_31 : tstr Try.prog 31 = false := by kernel_rfl
@[go_sem] theorem tagg_31 : tagg Try.prog 31 = (some false : Option Bool) := by kernel_rfl
@[go_sem] theorem tby_31 : tby Try.prog 31 = 0 := by kernel_rfl
@[go_sem] theorem tkind_31 : tkind Try.prog 31 = (none : Option Nat) := by kernel_rfl
@[go_sem] theorem teq_31 : teq Try.prog 31 = (none : Option (List Nat)) := by kernel_rfl
@[go_sem] theorem tzA_31 : tzA Try.prog 31 = (some (AV.tup [AV.v (Value.slice none 0 0), AV.v (Value.int IntKind.i64 (0))]) : Option AV) := by kernel_rfl
@[go_sem] theorem tund_32 : tund Try.prog 32 = true := by kernel_rfl
@[go_sem] theorem tsz_32 : tsz Try.prog 32 = 1 := by kernel_rfl
@[go_sem] theorem tel_32 : tel Try.prog 32 = (none : Option TypeId) := by kernel_rfl
@[go_sem] theorem tarr_32 : tarr Try.prog 32 = (none : Option (Nat × TypeId)) := by kernel_rfl
@[go_sem] theorem tfld_32 : tfld Try.prog 32 = (none : Option (List (Nat × TypeId))) := by kernel_rfl
@[go_sem] theorem tint_32 : tint Try.prog 32 = (none : Option IntKind) := by kernel_rfl
@[go_sem] theorem tstr_32 : tstr Try.prog 32 = false := by kernel_rfl
@[go_sem] theorem tagg_32 : tagg Try.prog 32 = (some false : Option Bool) := by kernel_rfl
@[go_sem] theorem tby_32 : tby Try.prog 32 = 8 := by kernel_rfl
@[go_sem] theorem tkind_32 : tkind Try.prog 32 = (none : Option Nat) := by kernel_rfl
@[go_sem] theorem teq_32 : teq Try.prog 32 = (none : Option (List Nat)) := by kernel_rfl
@[go_sem] theorem tzA_32 : tzA Try.prog 32 = (some (AV.v Value.nilFunc) : Option AV) := by kernel_rfl
@[go_sem] theorem tund_33 : tund Try.prog 33 = true := by kernel_rfl
@[go_sem] theorem tsz_33 : tsz Try.prog 33 = 1 := by kernel_rfl
@[go_sem] theorem tel_33 : tel Try.prog 33 = (none : Option TypeId) := by kernel_rfl
@[go_sem] theorem tarr_33 : tarr Try.prog 33 = (none : Option (Nat × TypeId)) := by kernel_rfl
@[go_sem] theorem tfld_33 : tfld Try.prog 33 = (none : Option (List (Nat × TypeId))) := by kernel_rfl
@[go_sem] theorem tint_33 : tint Try.prog 33 = (none : Option IntKind) := by kernel_rfl
@[go_sem] theorem tstr_33 : tstr Try.prog 33 = false := by kernel_rfl
@[go_sem] theorem tagg_33 : tagg Try.prog 33 = (some false : Option Bool) := by kernel_rfl
@[go_sem] theorem tby_33 : tby Try.prog 33 = 0 := by kernel_rfl
@[go_sem] theorem tkind_33 : tkind Try.prog 33 = (none : Option Nat) := by kernel_rfl
@[go_sem] theorem teq_33 : teq Try.prog 33 = (none : Option (List Nat)) := by kernel_rfl
@[go_sem] theorem tzA_33 : tzA Try.prog 33 = (some (AV.tup [AV.v (Value.slice none 0 0), AV.v (Value.int IntKind.i64 (0))]) : Option AV) := by kernel_rfl
@[go_sem] theorem tund_34 : tund Try.prog 34 = true := by kernel_rfl
@[go_sem] theorem tsz_34 : tsz Try.prog 34 = 1 := by kernel_rfl
@[go_sem] theorem tel_34 : tel Try.prog 34 = (none : Option TypeId) := by kernel_rfl
@[go_sem] theorem tarr_34 : tarr Try.prog 34 = (none : Option (Nat × TypeId)) := by kernel_rfl
@[go_sem] theorem tfld_34 : tfld Try.prog 34 = (none : Option (List (Nat × TypeId))) := by kernel_rfl
@[go_sem] theorem tint_34 : tint Try.prog 34 = (none : Option IntKind) := by kernel_rfl
@[go_sem] theorem tstr_34 : tstr Try.prog 34 = false := by kernel_rfl
@[go_sem] theorem tagg_34 : tagg Try.prog 34 = (some false : Option Bool) := by kernel_rfl
@[go_sem] theorem tby_34 : tby Try.prog 34 = 8 := by kernel_rfl
@[go_sem] theorem tkind_34 : tkind Try.prog 34 = (none : Option Nat) := by kernel_rfl
@[go_sem] theorem teq_34 : teq Try.prog 34 = (none : Option (List Nat)) := by kernel_rfl
@[go_sem] theorem tzA_34 : tzA Try.prog 34 = (some (AV.v Value.nilFunc) : Option AV) := by kernel_rfl
@[go_sem] theorem tund_35 : tund Try.prog 35 = true := by kernel_rfl
@[go_sem] theorem tsz_35 : tsz Try.prog 35 = 1 := by kernel_rfl
@[go_sem] theorem tel_35 : tel Try.prog 35 = (none : Option TypeId) := by kernel_rfl
@[go_sem] theorem tarr_35 : tarr Try.prog 35 = (none : Option (Nat × TypeId)) := by kernel_rfl
@[go_sem] theorem tfld_35 : tfld Try.prog 35 = (none : Option (List (Nat × TypeId))) := by kernel_rfl
@[go_sem] theorem tint_35 : tint Try.prog 35 = (none : Option IntKind) := by kernel_rfl
@[go_sem] theorem tstr_35 : tstr Try.prog 35 = false := by kernel_rfl
@[go_sem] theorem tagg_35 : tagg Try.prog 35 = (some false : Option Bool) := by kernel_rfl
@[go_sem] theorem tby_35 : tby Try.prog 35 = 0 := by kernel_rfl
@[go_sem] theorem tkind_35 : tkind Try.prog 35 = (none : Option Nat) := by kernel_rfl
@[go_sem] theorem teq_35 : teq Try.prog 35 = (none : Option (List Nat)) := by kernel_rfl
@[go_sem] theorem tzA_35 : tzA Try.prog 35 = (some (AV.tup [AV.v (Value.slice none 0 0), AV.v (Value.bool false)]) : Option AV) := by kernel_rfl
@[go_sem] theorem tund_36 : tund Try.prog 36 = true := by kernel_rfl
@[go_sem] theorem tsz_36 : tsz Try.prog 36 = 1 := by kernel_rfl
@[go_sem] theorem tel_36 : tel Try.prog 36 = (none : Option TypeId) := by kernel_rfl
@[go_sem] theorem tarr_36 : tarr Try.prog 36 = (none : Option (Nat × TypeId)) := by kernel_rfl
@[go_sem] theorem tfld_36 : tfld Try.prog 36 = (none : Option (List (Nat × TypeId))) := by kernel_rfl
@[go_sem] theorem tint_36 : tint Try.prog 36 = (none : Option IntKind) := by kernel_rfl
@[go_sem] theorem tstr_36 : tstr Try.prog 36 = false := by kernel_rfl
@[go_sem] theorem tagg_36 : tagg Try.prog 36 = (some false : Option Bool) := by kernel_rfl
@[go_sem] theorem tby_36 : tby Try.prog 36 = 8 := by kernel_rfl
@[go_sem] theorem tkind_36 : tkind Try.prog 36 = (none : Option Nat) := by kernel_rfl
@[go_sem] theorem teq_36 : teq Try.prog 36 = (none : Option (List Nat)) := by kernel_rfl
@[go_sem] theorem tzA_36 : tzA Try.prog 36 = (some (AV.v Value.nilFunc) : Option AV) := by kernel_rfl
@[go_sem] theorem tund_37 : tund Try.prog 37 = true := by kernel_rfl
@[go_sem] theorem tsz_37 : tsz Try.prog 37 = 1 := by kernel_rfl
@[go_sem] theorem tel_37 : tel Try.prog 37 = (none : Option TypeId) := by kernel_rfl
@[go_sem] theorem tarr_37 : tarr Try.prog 37 = (none : Option (Nat × TypeId)) := by kernel_rfl
@[go_sem] theorem tfld_37 : tfld Try.prog 37 = (none : Option (List (Nat × TypeId))) := by kernel_rfl
@[go_sem] theorem tint_37 : tint Try.prog 37 = (none : Option IntKind) := by kernel_rfl
@[go_sem] theorem tstr_37 : tstr Try.prog 37 = false := by kernel_rfl
@[go_sem] theorem tagg_37 : tagg Try.prog 37 = (some false : Option Bool) := by kernel_rfl
@[go_sem] theorem tby_37 : tby Try.prog 37 = 8 := by kernel_rfl
@[go_sem] theorem tkind_37 : tkind Try.prog 37 = (none : Option Nat) := by kernel_rfl
@[go_sem] theorem teq_37 : teq Try.prog 37 = (none : Option (List Nat)) := by kernel_rfl
@[go_sem] theorem tzA_37 : tzA Try.prog 37 = (some (AV.v Value.nilFunc) : Option AV) := by kernel_rfl
@[go_sem] theorem tund_38 : tund Try.prog 38 = true := by kernel_rfl
@[go_sem] theorem tsz_38 : tsz Try.prog 38 = 1 := by kernel_rfl
@[go_sem] theorem tel_38 : tel Try.prog 38 = (none : Option TypeId) := by kernel_rfl
@[go_sem] theorem tarr_38 : tarr Try.prog 38 = (none : Option (Nat × TypeId)) := by kernel_rfl
@[go_sem] theorem tfld_38 : tfld Try.prog 38 = (none : Option (List (Nat × TypeId))) := by kernel_rfl
@[go_sem] theorem tint_38 : tint Try.prog 38 = (none : Option IntKind) := by kernel_rfl
@[go_sem] theorem tstr_38 : tstr Try.prog 38 = false := by kernel_rfl
@[go_sem] theorem tagg_38 : tagg Try.prog 38 = (some false : Option Bool) := by kernel_rfl
@[go_sem] theorem tby_38 : tby Try.prog 38 = 8 := by kernel_rfl
@[go_sem] theorem tkind_38 : tkind Try.prog 38 = (none : Option Nat) := by kernel_rfl
@[go_sem] theorem teq_38 : teq Try.prog 38 = (none : Option (List Nat)) := by kernel_rfl
@[go_sem] theorem tzA_38 : tzA Try.prog 38 = (some (AV.v Value.nilFunc) : Option AV) := by kernel_rfl
@[go_sem] theorem tund_39 : tund Try.prog 39 = true := by kernel_rfl
@[go_sem] theorem tsz_39 : tsz Try.prog 39 = 1 := by kernel_rfl
@[go_sem] theorem tel_39 : tel Try.prog 39 = (none : Option TypeId) := by kernel_rfl
@[go_sem] theorem tarr_39 : tarr Try.prog 39 = (none : Option (Nat × TypeId)) := by kernel_rfl
@[go_sem] theorem tfld_39 : tfld Try.prog 39 = (none : Option (List (Nat × TypeId))) := by kernel_rfl
@[go_sem] theorem tint_39 : tint Try.prog 39 = (none : Option IntKind) := by kernel_rfl
@[go_sem] theorem tstr_39 : tstr Try.prog 39 = false := by kernel_rfl
@[go_sem] theorem tagg_39 : tagg Try.prog 39 = (some false : Option Bool) := by kernel_rfl
@[go_sem] theorem tby_39 : tby Try.prog 39 = 8 := by kernel_rfl
@[go_sem] theorem tkind_39 : tkind Try.prog 39 = (none : Option Nat) := by kernel_rfl
@[go_sem] theorem teq_39 : teq Try.prog 39 = (none : Option (List Nat)) := by kernel_rfl
@[go_sem] theorem tzA_39 : tzA Try.prog 39 = (some (AV.v Value.nilFunc) : Option AV) := by kernel_rfl
@[go_sem] theorem tund_40 : tund Try.prog 40 = true := by kernel_rfl
@[go_sem] theorem tsz_40 : tsz Try.prog 40 = 1 := by kernel_rfl
@[go_sem] theorem tel_40 : tel Try.prog 40 = (none : Option TypeId) := by kernel_rfl
@[go_sem] theorem tarr_40 : tarr Try.prog 40 = (none : Option (Nat × TypeId)) := by kernel_rfl
@[go_sem] theorem tfld_40 : tfld Try.prog 40 = (none : Option (List (Nat × TypeId))) := by kernel_rfl
@[go_sem] theorem tint_40 : tint Try.prog 40 = (none : Option IntKind) := by kernel_rfl
@[go_sem] theorem tstr_40 : tstr Try.prog 40 = false := by kernel_rfl
@[go_sem] theorem tagg_40 : tagg Try.prog 40 = (some false : Option Bool) := by kernel_rfl
@[go_sem] theorem tby_40 : tby Try.prog 40 = 8 := by kernel_rfl
@[go_sem] theorem tkind_40 : tkind Try.prog 40 = (none : Option Nat) := by kernel_rfl
@[go_sem] theorem teq_40 : teq Try.prog 40 = (none : Option (List Nat)) := by kernel_rfl
@[go_sem] theorem tzA_40 : tzA Try.prog 40 = (some (AV.v Value.nilFunc) : Option AV) := by kernel_rfl
@[go_sem] theorem tund_41 : tund Try.prog 41 = true := by kernel_rfl
@[go_sem] theorem tsz_41 : tsz Try.prog 41 = 1 := by kernel_rfl
@[go_sem] theorem tel_41 : tel Try.prog 41 = (none : Option TypeId) := by kernel_rfl
@[go_sem] theorem tarr_41 : tarr Try.prog 41 = (none : Option (Nat × TypeId)) := by kernel_rfl
@[go_sem] theorem tfld_41 : tfld Try.prog 41 = (none : Option (List (Nat × TypeId))) := by kernel_rfl
@[go_sem] theorem tint_41 : tint Try.prog 41 = (none : Option IntKind) := by kernel_rfl
@[go_sem] theorem tstr_41 : tstr Try.prog 41 = false := by kernel_rfl
@[go_sem] theorem tagg_41 : tagg Try.prog 41 = (some false : Option Bool) := by kernel_rfl
@[go_sem] theorem tby_41 : tby Try.prog 41 = 8 := by kernel_rfl
@[go_sem] theorem tkind_41 : tkind Try.prog 41 = (none : Option Nat) := by kernel_rfl
@[go_sem] theorem teq_41 : teq Try.prog 41 = (none : Option (List Nat)) := by kernel_rfl
@[go_sem] theorem tzA_41 : tzA Try.prog 41 = (some (AV.v Value.nilFunc) : Option AV) := by kernel_rfl
@[go_sem] theorem tund_42 : tund Try.prog 42 = true := by kernel_rfl
@[go_sem] theorem tsz_42 : tsz Try.prog 42 = 1 := by kernel_rfl
@[go_sem] theorem tz_42 : tz Try.prog 42 = some (Value.slice none 0 0) := by kernel_rfl
@[go_sem] theorem tel_42 : tel Try.prog 42 = (some 25 : Option TypeId) := by kernel_rfl
@[go_sem] theorem tarr_42 : tarr Try.prog 42 = (none : Option (Nat × TypeId)) := by kernel_rfl
@[go_sem] theorem tfld_42 : tfld Try.prog 42 = (none : Option (List (Nat × TypeId))) := by kernel_rfl
@[go_sem] theorem tint_42 : tint Try.prog 42 = (none : Option IntKind) := by kernel_rfl
@[go_sem] theorem tstr_42 : tstr Try.prog 42 = false := by kernel_rfl
@[go_sem] theorem tagg_42 : tagg Try.prog 42 = (some false : Option Bool) := by kernel_rfl
@[go_sem] theorem tby_42 : tby Try.prog 42 = 24 := by kernel_rfl
@[go_sem] theorem tkind_42 : tkind Try.prog 42 = (none : Option Nat) := by kernel_rfl
@[go_sem] theorem teq_42 : teq Try.prog 42 = (none : Option (List Nat)) := by kernel_rfl
@[go_sem] theorem tzA_42 : tzA Try.prog 42 = (some (AV.v (Value.slice none 0 0)) : Option AV) := by kernel_rfl
@[go_sem] theorem tund_43 : tund Try.prog 43 = true := by kernel_rfl
@[go_sem] theorem tsz_43 : tsz Try.prog 43 = 1 := by kernel_rfl
@[go_sem] theorem tel_43 : tel Try.prog 43 = (none : Option TypeId) := by kernel_rfl
@[go_sem] theorem tarr_43 : tarr Try.prog 43 = (none : Option (Nat × TypeId)) := by kernel_rfl
@[go_sem] theorem tfld_43 : tfld Try.prog 43 = (none : Option (List (Nat × TypeId))) := by kernel_rfl
@[go_sem] theorem tint_43 : tint Try.prog 43 = (none : Option IntKind) := by kernel_rfl
@[go_sem] theorem tstr_43 : tstr Try.prog 43 = false := by kernel_rfl
@[go_sem] theorem tagg_43 : tagg Try.prog 43 = (some false : Option Bool) := by kernel_rfl
@[go_sem] theorem tby_43 : tby Try.prog 43 = 0 := by kernel_rfl
@[go_sem] theorem tkind_43 : tkind Try.prog 43 = (none : Option Nat) := by kernel_rfl
@[go_sem] theorem teq_43 : teq Try.prog 43 = (none : Option (List Nat)) := by kernel_rfl
@[go_sem] theorem tzA_43 : tzA Try.prog 43 = (some (AV.tup [AV.v (Value.int IntKind.i64 (0)), AV.v (Value.int IntKind.i64 (0))]) : Option AV) := by kernel_rfl
@[go_sem] theorem tund_44 : tund Try.prog 44 = true := by kernel_rfl
@[go_sem] theorem tsz_44 : tsz Try.prog 44 = 1 := by kernel_rfl
@[go_sem] theorem tel_44 : tel Try.prog 44 = (none : Option TypeId) := by kernel_rfl
@[go_sem] theorem tarr_44 : tarr Try.prog 44 = (none : Option (Nat × TypeId)) := by kernel_rfl
@[go_sem] theorem tfld_44 : tfld Try.prog 44 = (none : Option (List (Nat × TypeId))) := by kernel_rfl
@[go_sem] theorem tint_44 : tint Try.prog 44 = (none : Option IntKind) := by kernel_rfl
@[go_sem] theorem tstr_44 : tstr Try.prog 44 = false := by kernel_rfl
@[go_sem] theorem tagg_44 : tagg Try.prog 44 = (some false : Option Bool) := by kernel_rfl
@[go_sem] theorem tby_44 : tby Try.prog 44 = 8 := by kernel_rfl
@[go_sem] theorem tkind_44 : tkind Try.prog 44 = (none : Option Nat) := by kernel_rfl
@[go_sem] theorem teq_44 : teq Try.prog 44 = (none : Option (List Nat)) := by kernel_rfl
@[go_sem] theorem tzA_44 : tzA Try.prog 44 = (some (AV.v Value.nilFunc) : Option AV) := by kernel_rfl
@[go_sem] theorem tund_45 : tund Try.prog 45 = true := by kernel_rfl
@[go_sem] theorem tsz_45 : tsz Try.prog 45 = 1 := by kernel_rfl
@[go_sem] theorem tel_45 : tel Try.prog 45 = (none : Option TypeId) := by kernel_rfl
@[go_sem] theorem tarr_45 : tarr Try.prog 45 = (none : Option (Nat × TypeId)) := by kernel_rfl
@[go_sem] theorem tfld_45 : tfld Try.prog 45 = (none : Option (List (Nat × TypeId))) := by kernel_rfl
@[go_sem] theorem tint_45 : tint Try.prog 45 = (none : Option IntKind) := by kernel_rfl
@[go_sem] theorem tstr_45 : tstr Try.prog 45 = false := by kernel_rfl
@[go_sem] theorem tagg_45 : tagg Try.prog 45 = (some false : Option Bool) := by kernel_rfl
@[go_sem] theorem tby_45 : tby Try.prog 45 = 8 := by kernel_rfl
@[go_sem] theorem tkind_45 : tkind Try.prog 45 = (none : Option Nat) := by kernel_rfl
@[go_sem] theorem teq_45 : teq Try.prog 45 = (none : Option (List Nat)) := by kernel_rfl
@[go_sem] theorem tzA_45 : tzA Try.prog 45 = (some (AV.v Value.nilFunc) : Option AV) := by kernel_rfl
@[go_sem] theorem tund_46 : tund Try.prog 46 = true := by kernel_rfl
@[go_sem] theorem tsz_46 : tsz Try.prog 46 = 3 := by kernel_rfl
@[go_sem] theorem tel_46 : tel Try.prog 46 = (none : Option TypeId) := by kernel_rfl
@[go_sem] theorem tarr_46 : tarr Try.prog 46 = (none : Option (Nat × TypeId)) := by kernel_rfl
@[go_sem] theorem tfld_46 : tfld Try.prog 46 = (some [(0, 3), (1, 3), (2, 3)] : Option (List (Nat × TypeId))) := by kernel_rfl
@[go_sem] theorem tint_46 : tint Try.prog 46 = (none : Option IntKind) := by kernel_rfl
@[go_sem] theorem tstr_46 : tstr Try.prog 46 = false := by kernel_rfl
@[go_sem] theorem tagg_46 : tagg Try.prog 46 = (some true : Option Bool) := by kernel_rfl
@[go_sem] theorem tby_46 : tby Try.prog 46 = 24 := by kernel_rfl
@[go_sem] theorem tkind_46 : tkind Try.prog 46 = (none : Option Nat) := by kernel_rfl
@[go_sem] theorem teq_46 : teq Try.prog 46 = (some [0, 0, 0] : Option (List Nat)) := by kernel_rfl
@[go_sem] theorem tzA_46 : tzA Try.prog 46 = (some (AV.agg [AV.v (Value.int IntKind.i64 (0)), AV.v (Value.int IntKind.i64 (0)), AV.v (Value.int IntKind.i64 (0))]) : Option AV) := by kernel_rfl
@[go_sem] theorem tund_47 : tund Try.prog 47 = true := by kernel_rfl
@[go_sem] theorem tsz_47 : tsz Try.prog 47 = 3 := by kernel_rfl
@[go_sem] theorem tel_47 : tel Try.prog 47 = (none : Option TypeId) := by kernel_rfl
@[go_sem] theorem tarr_47 : tarr Try.prog 47 = (none : Option (Nat × TypeId)) := by kernel_rfl
@[go_sem] theorem tfld_47 : tfld Try.prog 47 = (some [(0, 3), (1, 3), (2, 3)] : Option (List (Nat × TypeId))) := by kernel_rfl
@[go_sem] theorem tint_47 : tint Try.prog 47 = (none : Option IntKind) := by kernel_rfl
@[go_sem] theorem tstr_47 : tstr Try.prog 47 = false := by kernel_rfl
@[go_sem] theorem tagg_47 : tagg Try.prog 47 = (some true : Option Bool) := by kernel_rfl
@[go_sem] theorem tby_47 : tby Try.prog 47 = 24 := by kernel_rfl
@[go_sem] theorem tkind_47 : tkind Try.prog 47 = (none : Option Nat) := by kernel_rfl
@[go_sem] theorem teq_47 : teq Try.prog 47 = (some [0, 0, 0] : Option (List Nat)) := by kernel_rfl
@[go_sem] theorem tzA_47 : tzA Try.prog 47 = (some (AV.agg [AV.v (Value.int IntKind.i64 (0)), AV.v (Value.int IntKind.i64 (0)), AV.v (Value.int IntKind.i64 (0))]) : Option AV) := by kernel_rfl
@[go_sem] theorem tund_48 : tund Try.prog 48 = true := by kernel_rfl
@[go_sem] theorem tsz_48 : tsz Try.prog 48 = 1 := by kernel_rfl
@[go_sem] theorem tel_48 : tel Try.prog 48 = (none : Option TypeId) := by kernel_rfl
@[go_sem] theorem tarr_48 : tarr Try.prog 48 = (none : Option (Nat × TypeId)) := by kernel_rfl
@[go_sem] theorem tfld_48 : tfld Try.prog 48 = (none : Option (List (Nat × TypeId))) := by kernel_rfl
@[go_sem] theorem tint_48 : tint Try.prog 48 = (none : Option IntKind) := by kernel_rfl
@[go_sem] theorem tstr_48 : tstr Try.prog 48 = false := by kernel_rfl
@[go_sem] theorem tagg_48 : tagg Try.prog 48 = (some false : Option Bool) := by kernel_rfl
@[go_sem] theorem tby_48 : tby Try.prog 48 = 8 := by kernel_rfl
@[go_sem] theorem tkind_48 : tkind Try.prog 48 = (none : Option Nat) := by kernel_rfl
@[go_sem] theorem teq_48 : teq Try.prog 48 = (none : Option (List Nat)) := by kernel_rfl
@[go_sem] theorem tzA_48 : tzA Try.prog 48 = (some (AV.v Value.nilFunc) : Option AV) := by kernel_rfl
@[go_sem] theorem tund_49 : tund Try.prog 49 = true := by kernel_rfl
@[go_sem] theorem tsz_49 : tsz Try.prog 49 = 1 := by kernel_rfl
@[go_sem] theorem tel_49 : tel Try.prog 49 = (none : Option TypeId) := by kernel_rfl
@[go_sem] theorem tarr_49 : tarr Try.prog 49 = (none : Option (Nat × TypeId)) := by kernel_rfl
@[go_sem] theorem tfld_49 : tfld Try.prog 49 = (none : Option (List (Nat × TypeId))) := by kernel_rfl
@[go_sem] theorem tint_49 : tint Try.prog 49 = (none : Option IntKind) := by kernel_rfl
@[go_sem] theorem tstr_49 : tstr Try.prog 49 = false := by kernel_rfl
@[go_sem] theorem tagg_49 : tagg Try.prog 49 = (some false : Option Bool) := by kernel_rfl
@[go_sem] theorem tby_49 : tby Try.prog 49 = 8 := by kernel_rfl
@[go_sem] theorem tkind_49 : tkind Try.prog 49 = (none : Option Nat) := by kernel_rfl
@[go_sem] theorem teq_49 : teq Try.prog 49 = (none : Option (List Nat)) := by kernel_rfl
@[go_sem] theorem tzA_49 : tzA Try.prog 49 = (some (AV.v Value.nilFunc) : Option AV) := by kernel_rfl
@[go_sem] theorem tund_50 : tund Try.prog 50 = true := by kernel_rfl
@[go_sem] theorem tsz_50 : tsz Try.prog 50 = 1 := by kernel_rfl
@[go_sem] theorem tel_50 : tel Try.prog 50 = (none : Option TypeId) := by kernel_rfl
@[go_sem] theorem tarr_50 : tarr Try.prog 50 = (none : Option (Nat × TypeId)) := by kernel_rfl
@[go_sem] theorem tfld_50 : tfld Try.prog 50 = (none : Option (List (Nat × TypeId))) := by kernel_rfl
@[go_sem] theorem tint_50 : tint Try.prog 50 = (none : Option IntKind) := by kernel_rfl
@[go_sem] theorem tstr_50 : tstr Try.prog 50 = false := by kernel_rfl
@[go_sem] theorem tagg_50 : tagg Try.prog 50 = (some false : Option Bool) := by kernel_rfl
@[go_sem] theorem tby_50 : tby Try.prog 50 = 8 := by kernel_rfl
@[go_sem] theorem tkind_50 : tkind Try.prog 50 = (none : Option Nat) := by kernel_rfl
@[go_sem] theorem teq_50 : teq Try.prog 50 = (none : Option (List Nat)) := by kernel_rfl
@[go_sem] theorem tzA_50 : tzA Try.prog 50 = (some (AV.v Value.nilFunc) : Option AV) := by kernel_rfl
@[go_sem] theorem tund_51 : tund Try.prog 51 = true := by kernel_rfl
@[go_sem] theorem tsz_51 : tsz Try.prog 51 = 1 := by kernel_rfl
@[go_sem] theorem tel_51 : tel Try.prog 51 = (none : Option TypeId) := by kernel_rfl
@[go_sem] theorem tarr_51 : tarr Try.prog 51 = (none : Option (Nat × TypeId)) := by kernel_rfl
@[go_sem] theorem tfld_51 : tfld Try.prog 51 = (none : Option (List (Nat × TypeId))) := by kernel_rfl
@[go_sem] theorem tint_51 : tint Try.prog 51 = (none : Option IntKind) := by kernel_rfl
@[go_sem] theorem tstr_51 : tstr Try.prog 51 = false := by kernel_rfl
@[go_sem] theorem tagg_51 : tagg Try.prog 51 = (some false : Option Bool) := by kernel_rfl
@[go_sem] theorem tby_51 : tby Try.prog 51 = 8 := by kernel_rfl
@[go_sem] theorem tkind_51 : tkind Try.prog 51 = (none : Option Nat) := by kernel_rfl
@[go_sem] theorem teq_51 : teq Try.prog 51 = (none : Option (List Nat)) := by kernel_rfl
@[go_sem] theorem tzA_51 : tzA Try.prog 51 = (some (AV.v Value.nilFunc) : Option AV) := by kernel_rfl
@[go_sem] theorem tund_52 : tund Try.prog 52 = true := by kernel_rfl
@[go_sem] theorem tsz_52 : tsz Try.prog 52 = 1 := by kernel_rfl
@[go_sem] theorem tel_52 : tel Try.prog 52 = (none : Option TypeId) := by kernel_rfl
@[go_sem] theorem tarr_52 : tarr Try.prog 52 = (none : Option (Nat × TypeId)) := by kernel_rfl
@[go_sem] theorem tfld_52 : tfld Try.prog 52 = (none : Option (List (Nat × TypeId))) := by kernel_rfl
@[go_sem] theorem tint_52 : tint Try.prog 52 = (none : Option IntKind) := by kernel_rfl
@[go_sem] theorem tstr_52 : tstr Try.prog 52 = false := by kernel_rfl
@[go_sem] theorem tagg_52 : tagg Try.prog 52 = (some false : Option Bool) := by kernel_rfl
@[go_sem] theorem tby_52 : tby Try.prog 52 = 8 := by kernel_rfl
@[go_sem] theorem tkind_52 : tkind Try.prog 52 = (none : Option Nat) := by kernel_rfl
@[go_sem] theorem teq_52 : teq Try.prog 52 = (none : Option (List Nat)) := by kernel_rfl
@[go_sem] theorem tzA_52 : tzA Try.prog 52 = (some (AV.v Value.nilFunc) : Option AV) := by kernel_rfl
@[go_sem] theorem tund_53 : tund Try.prog 53 = true := by kernel_rfl
@[go_sem] theorem tsz_53 : tsz Try.prog 53 = 1 := by kernel_rfl
@[go_sem] theorem tel_53 : tel Try.prog 53 = (none : Option TypeId) := by kernel_rfl
@[go_sem] theorem tarr_53 : tarr Try.prog 53 = (none : Option (Nat × TypeId)) := by kernel_rfl
@[go_sem] theorem tfld_53 : tfld Try.prog 53 = (none : Option (List (Nat × TypeId))) := by kernel_rfl
@[go_sem] theorem tint_53 : tint Try.prog 53 = (none : Option IntKind) := by kernel_rfl
@[go_sem] theorem tstr_53 : tstr Try.prog 53 = false := by kernel_rfl
@[go_sem] theorem tagg_53 : tagg Try.prog 53 = (some false : Option Bool) := by kernel_rfl
@[go_sem] theorem tby_53 : tby Try.prog 53 = 8 := by kernel_rfl
@[go_sem] theorem tkind_53 : tkind Try.prog 53 = (none : Option Nat) := by kernel_rfl
@[go_sem] theorem teq_53 : teq Try.prog 53 = (none : Option (List Nat)) := by kernel_rfl
@[go_sem] theorem tzA_53 : tzA Try.prog 53 = (some (AV.v Value.nilFunc) : Option AV) := by kernel_rfl
@[go_sem] theorem tund_54 : tund Try.prog 54 = true := by kernel_rfl
@[go_sem] theorem tsz_54 : tsz Try.prog 54 = 1 := by kernel_rfl
@[go_sem] theorem tel_54 : tel Try.prog 54 = (none : Option TypeId) := by kernel_rfl
@[go_sem] theorem tarr_54 : tarr Try.prog 54 = (none : Option (Nat × TypeId)) := by kernel_rfl
@[go_sem] theorem tfld_54 : tfld Try.prog 54 = (none : Option (List (Nat × TypeId))) := by kernel_rfl
@[go_sem] theorem tint_54 : tint Try.prog 54 = (none : Option IntKind) := by kernel_rfl
@[go_sem] theorem tstr_54 : tstr Try.prog 54 = false := by kernel_rfl
@[go_sem] theorem tagg_54 : tagg Try.prog 54 = (some false : Option Bool) := by kernel_rfl
@[go_sem] theorem tby_54 : tby Try.prog 54 = 8 := by kernel_rfl
@[go_sem] theorem tkind_54 : tkind Try.prog 54 = (none : Option Nat) := by kernel_rfl
@[go_sem] theorem teq_54 : teq Try.prog 54 = (none : Option (List Nat)) := by kernel_rfl
@[go_sem] theorem tzA_54 : tzA Try.prog 54 = (some (AV.v Value.nilFunc) : Option AV) := by kernel_rfl
@[go_sem] theorem tund_55 : tund Try.prog 55 = true := by kernel_rfl
@[go_sem] theorem tsz_55 : tsz Try.prog 55 = 8 := by kernel_rfl
@[go_sem] theorem tel_55 : tel Try.prog 55 = (none : Option TypeId) := by kernel_rfl
@[go_sem] theorem tarr_55 : tarr Try.prog 55 = (some (8, 4) : Option (Nat × TypeId)) := by kernel_rfl
@[go_sem] theorem tfld_55 : tfld Try.prog 55 = (none : Option (List (Nat × TypeId))) := by kernel_rfl
@[go_sem] theorem tint_55 : tint Try.prog 55 = (none : Option IntKind) := by kernel_rfl
@[go_sem] theorem tstr_55 : tstr Try.prog 55 = false := by kernel_rfl
@[go_sem] theorem tagg_55 : tagg Try.prog 55 = (some true : Option Bool) := by kernel_rfl
@[go_sem] theorem tby_55 : tby Try.prog 55 = 8 := by kernel_rfl
@[go_sem] theorem tkind_55 : tkind Try.prog 55 = (none : Option Nat) := by kernel_rfl
@[go_sem] theorem teq_55 : teq Try.prog 55 = (none : Option (List Nat)) := by kernel_rfl
@[go_sem] theorem tzA_55 : tzA Try.prog 55 = (some (AV.agg [AV.v (Value.bool false), AV.v (Value.bool false), AV.v (Value.bool false), AV.v (Value.bool false), AV.v (Value.bool false), AV.v (Value.bool false), AV.v (Value.bool false), AV.v (Value.bool false)]) : Option AV) := by kernel_rfl
@[go_sem] theorem tund_56 : tund Try.prog 56 = true := by kernel_rfl
@[go_sem] theorem tsz_56 : tsz Try.prog 56 = 1 := by kernel_rfl
@[go_sem] theorem tel_56 : tel Try.prog 56 = (none : Option TypeId) := by kernel_rfl
@[go_sem] theorem tarr_56 : tarr Try.prog 56 = (none : Option (Nat × TypeId)) := by kernel_rfl
@[go_sem] theorem tfld_56 : tfld Try.prog 56 = (none : Option (List (Nat × TypeId))) := by kernel_rfl
@[go_sem] theorem tint_56 : tint Try.prog 56 = (none : Option IntKind) := by kernel_rfl
@[go_sem] theorem tstr_56 : tstr Try.prog 56 = false := by kernel_rfl
@[go_sem] theorem tagg_56 : tagg Try.prog 56 = (some false : Option Bool) := by kernel_rfl
@[go_sem] theorem tby_56 : tby Try.prog 56 = 8 := by kernel_rfl
@[go_sem] theorem tkind_56 : tkind Try.prog 56 = (none : Option Nat) := by kernel_rfl
@[go_sem] theorem teq_56 : teq Try.prog 56 = (none : Option (List Nat)) := by kernel_rfl
@[go_sem] theorem tzA_56 : tzA Try.prog 56 = (some (AV.v Value.nilFunc) : Option AV) := by kernel_rfl
@[go_sem] theorem tund_57 : tund Try.prog 57 = true := by kernel_rfl
@[go_sem] theorem tsz_57 : tsz Try.prog 57 = 1 := by kernel_rfl
@[go_sem] theorem tel_57 : tel Try.prog 57 = (none : Option TypeId) := by kernel_rfl
@[go_sem] theorem tarr_57 : tarr Try.prog 57 = (none : Option (Nat × TypeId)) := by kernel_rfl
@[go_sem] theorem tfld_57 : tfld Try.prog 57 = (none : Option (List (Nat × TypeId))) := by kernel_rfl
@[go_sem] theorem tint_57 : tint Try.prog 57 = (none : Option IntKind) := by kernel_rfl
@[go_sem] theorem tstr_57 : tstr Try.prog 57 = false := by kernel_rfl
@[go_sem] theorem tagg_57 : tagg Try.prog 57 = (some false : Option Bool) := by kernel_rfl
@[go_sem] theorem tby_57 : tby Try.prog 57 = 8 := by kernel_rfl
@[go_sem] theorem tkind_57 : tkind Try.prog 57 = (none : Option Nat) := by kernel_rfl
@[go_sem] theorem teq_57 : teq Try.prog 57 = (none : Option (List Nat)) := by kernel_rfl
@[go_sem] theorem tzA_57 : tzA Try.prog 57 = (some (AV.v Value.nilFunc) : Option AV) := by kernel_rfl
@[go_sem] theorem tund_58 : tund Try.prog 58 = true := by kernel_rfl
@[go_sem] theorem tsz_58 : tsz Try.prog 58 = 1 := by kernel_rfl
@[go_sem] theorem tel_58 : tel Try.prog 58 = (none : Option TypeId) := by kernel_rfl
@[go_sem] theorem tarr_58 : tarr Try.prog 58 = (none : Option (Nat × TypeId)) := by kernel_rfl
@[go_sem] theorem tfld_58 : tfld Try.prog 58 = (none : Option (List (Nat × TypeId))) := by kernel_rfl
@[go_sem] theorem tint_58 : tint Try.prog 58 = (none : Option IntKind) := by kernel_rfl
@[go_sem] theorem tstr_58 : tstr Try.prog 58 = false := by kernel_rfl
@[go_sem] theorem tagg_58 : tagg Try.prog 58 = (some false : Option Bool) := by kernel_rfl
@[go_sem] theorem tby_58 : tby Try.prog 58 = 8 := by kernel_rfl
@[go_sem] theorem tkind_58 : tkind Try.prog 58 = (none : Option Nat) := by kernel_rfl
@[go_sem] theorem teq_58 : teq Try.prog 58 = (none : Option (List Nat)) := by kernel_rfl
@[go_sem] theorem tzA_58 : tzA Try.prog 58 = (some (AV.v Value.nilFunc) : Option AV) := by kernel_rfl
@[go_sem] theorem tund_59 : tund Try.prog 59 = true := by kernel_rfl
@[go_sem] theorem tsz_59 : tsz Try.prog 59 = 1 := by kernel_rfl
@[go_sem] theorem tel_59 : tel Try.prog 59 = (none : Option TypeId) := by kernel_rfl
@[go_sem] theorem tarr_59 : tarr Try.prog 59 = (none : Option (Nat × TypeId)) := by kernel_rfl
@[go_sem] theorem tfld_59 : tfld Try.prog 59 = (none : Option (List (Nat × TypeId))) := by kernel_rfl
@[go_sem] theorem tint_59 : tint Try.prog 59 = (none : Option IntKind) := by kernel_rfl
@[go_sem] theorem tstr_59 : tstr Try.prog 59 = false := by kernel_rfl
@[go_sem] theorem tagg_59 : tagg Try.prog 59 = (some false : Option Bool) := by kernel_rfl
@[go_sem] theorem tby_59 : tby Try.prog 59 = 8 := by kernel_rfl
@[go_sem] theorem tkind_59 : tkind Try.prog 59 = (none : Option Nat) := by kernel_rfl
@[go_sem] theorem teq_59 : teq Try.prog 59 = (none : Option (List Nat)) := by kernel_rfl
@[go_sem] theorem tzA_59 : tzA Try.prog 59 = (some (AV.v (Value.pointer none)) : Option AV) := by kernel_rfl
@[go_sem] theorem tund_60 : tund Try.prog 60 = true := by kernel_rfl
@[go_sem] theorem tsz_60 : tsz Try.prog 60 = 1 := by kernel_rfl
@[go_sem] theorem tel_60 : tel Try.prog 60 = (none : Option TypeId) := by kernel_rfl
@[go_sem] theorem tarr_60 : tarr Try.prog 60 = (none : Option (Nat × TypeId)) := by kernel_rfl
@[go_sem] theorem tfld_60 : tfld Try.prog 60 = (none : Option (List (Nat × TypeId))) := by kernel_rfl
@[go_sem] theorem tint_60 : tint Try.prog 60 = (none : Option IntKind) := by kernel_rfl
@[go_sem] theorem tstr_60 : tstr Try.prog 60 = false := by kernel_rfl
@[go_sem] theorem tagg_60 : tagg Try.prog 60 = (some false : Option Bool) := by kernel_rfl
@[go_sem] theorem tby_60 : tby Try.prog 60 = 8 := by kernel_rfl
@[go_sem] theorem tkind_60 : tkind Try.prog 60 = (none : Option Nat) := by kernel_rfl
@[go_sem] theorem teq_60 : teq Try.prog 60 = (none : Option (List Nat)) := by kernel_rfl
@[go_sem] theorem tzA_60 : tzA Try.prog 60 = (some (AV.v Value.nilFunc) : Option AV) := by kernel_rfl
@[go_sem] theorem tund_61 : tund Try.prog 61 = true := by kernel_rfl
@[go_sem] theorem tsz_61 : tsz Try.prog 61 = 1 := by kernel_rfl
@[go_sem] theorem tel_61 : tel Try.prog 61 = (none : Option TypeId) := by kernel_rfl
@[go_sem] theorem tarr_61 : tarr Try.prog 61 = (none : Option (Nat × TypeId)) := by kernel_rfl
@[go_sem] theorem tfld_61 : tfld Try.prog 61 = (none : Option (List (Nat × TypeId))) := by kernel_rfl
@[go_sem] theorem tint_61 : tint Try.prog 61 = (none : Option IntKind) := by kernel_rfl
@[go_sem] theorem tstr_61 : tstr Try.prog 61 = false := by kernel_rfl
@[go_sem] theorem tagg_61 : tagg Try.prog 61 = (some false : Option Bool) := by kernel_rfl
@[go_sem] theorem tby_61 : tby Try.prog 61 = 8 := by kernel_rfl
@[go_sem] theorem tkind_61 : tkind Try.prog 61 = (none : Option Nat) := by kernel_rfl
@[go_sem] theorem teq_61 : teq Try.prog 61 = (none : Option (List Nat)) := by kernel_rfl
@[go_sem] theorem tzA_61 : tzA Try.prog 61 = (some (AV.v Value.nilFunc) : Option AV) := by kernel_rfl
@[go_sem] theorem tund_62 : tund Try.prog 62 = true := by kernel_rfl
@[go_sem] theorem tsz_62 : tsz Try.prog 62 = 1 := by kernel_rfl
@[go_sem] theorem tel_62 : tel Try.prog 62 = (none : Option TypeId) := by kernel_rfl
@[go_sem] theorem tarr_62 : tarr Try.prog 62 = (none : Option (Nat × TypeId)) := by kernel_rfl
@[go_sem] theorem tfld_62 : tfld Try.prog 62 = (none : Option (List (Nat × TypeId))) := by kernel_rfl
@[go_sem] theorem tint_62 : tint Try.prog 62 = (none : Option IntKind) := by kernel_rfl
@[go_sem] theorem tstr_62 : tstr Try.prog 62 = false := by kernel_rfl
@[go_sem] theorem tagg_62 : tagg Try.prog 62 = (some false : Option Bool) := by kernel_rfl
@[go_sem] theorem tby_62 : tby Try.prog 62 = 8 := by kernel_rfl
@[go_sem] theorem tkind_62 : tkind Try.prog 62 = (none : Option Nat) := by kernel_rfl
@[go_sem] theorem teq_62 : teq Try.prog 62 = (none : Option (List Nat)) := by kernel_rfl
@[go_sem] theorem tzA_62 : tzA Try.prog 62 = (some (AV.v Value.nilFunc) : Option AV) := by kernel_rfl
@[go_sem] theorem tund_63 : tund Try.prog 63 = true := by kernel_rfl
@[go_sem] theorem tsz_63 : tsz Try.prog 63 = 1 := by kernel_rfl
@[go_sem] theorem tel_63 : tel Try.prog 63 = (none : Option TypeId) := by kernel_rfl
@[go_sem] theorem tarr_63 : tarr Try.prog 63 = (none : Option (Nat × TypeId)) := by kernel_rfl
@[go_sem] theorem tfld_63 : tfld Try.prog 63 = (none : Option (List (Nat × TypeId))) := by kernel_rfl
@[go_sem] theorem tint_63 : tint Try.prog 63 = (none : Option IntKind) := by kernel_rfl
@[go_sem] theorem tstr_63 : tstr Try.prog 63 = false := by kernel_rfl
@[go_sem] theorem tagg_63 : tagg Try.prog 63 = (some false : Option Bool) := by kernel_rfl
@[go_sem] theorem tby_63 : tby Try.prog 63 = 8 := by kernel_rfl
@[go_sem] theorem tkind_63 : tkind Try.prog 63 = (none : Option Nat) := by kernel_rfl
@[go_sem] theorem teq_63 : teq Try.prog 63 = (none : Option (List Nat)) := by kernel_rfl
@[go_sem] theorem tzA_63 : tzA Try.prog 63 = (some (AV.v Value.nilFunc) : Option AV) := by kernel_rfl
@[go_sem] theorem tund_64 : tund Try.prog 64 = true := by kernel_rfl
@[go_sem] theorem tsz_64 : tsz Try.prog 64 = 8 := by kernel_rfl
@[go_sem] theorem tel_64 : tel Try.prog 64 = (none : Option TypeId) := by kernel_rfl
@[go_sem] theorem tarr_64 : tarr Try.prog 64 = (some (8, 3) : Option (Nat × TypeId)) := by kernel_rfl
@[go_sem] theorem tfld_64 : tfld Try.prog 64 = (none : Option (List (Nat × TypeId))) := by kernel_rfl
@[go_sem] theorem tint_64 : tint Try.prog 64 = (none : Option IntKind) := by kernel_rfl
@[go_sem] theorem tstr_64 : tstr Try.prog 64 = false := by kernel_rfl
@[go_sem] theorem tagg_64 : tagg Try.prog 64 = (some true : Option Bool) := by kernel_rfl
@[go_sem] theorem tby_64 : tby Try.prog 64 = 64 := by kernel_rfl
@[go_sem] theorem tkind_64 : tkind Try.prog 64 = (none : Option Nat) := by kernel_rfl
@[go_sem] theorem teq_64 : teq Try.prog 64 = (none : Option (List Nat)) := by kernel_rfl
@[go_sem] theorem tzA_64 : tzA Try.prog 64 = (some (AV.agg [AV.v (Value.int IntKind.i64 (0)), AV.v (Value.int IntKind.i64 (0)), AV.v (Value.int IntKind.i64 (0)), AV.v (Value.int IntKind.i64 (0)), AV.v (Value.int IntKind.i64 (0)), AV.v (Value.int IntKind.i64 (0)), AV.v (Value.int IntKind.i64 (0)), AV.v (Value.int IntKind.i64 (0))]) : Option AV) := by kernel_rfl
@[go_sem] theorem tund_65 : tund Try.prog 65 = true := by kernel_rfl
@[go_sem] theorem tsz_65 : tsz Try.prog 65 = 1 := by kernel_rfl
@[go_sem] theorem tel_65 : tel Try.prog 65 = (none : Option TypeId) := by kernel_rfl
@[go_sem] theorem tarr_65 : tarr Try.prog 65 = (none : Option (Nat × TypeId)) := by kernel_rfl
@[go_sem] theorem tfld_65 : tfld Try.prog 65 = (none : Option (List (Nat × TypeId))) := by kernel_rfl
@[go_sem] theorem tint_65 : tint Try.prog 65 = (none : Option IntKind) := by kernel_rfl
@[go_sem] theorem tstr_65 : tstr Try.prog 65 = false := by kernel_rfl
@[go_sem] theorem tagg_65 : tagg Try.prog 65 = (some false : Option Bool) := by kernel_rfl
@[go_sem] theorem tby_65 : tby Try.prog 65 = 8 := by kernel_rfl
@[go_sem] theorem tkind_65 : tkind Try.prog 65 = (none : Option Nat) := by kernel_rfl
@[go_sem] theorem teq_65 : teq Try.prog 65 = (none : Option (List Nat)) := by kernel_rfl
@[go_sem] theorem tzA_65 : tzA Try.prog 65 = (some (AV.v Value.nilFunc) : Option AV) := by kernel_rfl
@[go_sem] theorem tund_66 : tund Try.prog 66 = true := by kernel_rfl
@[go_sem] theorem tsz_66 : tsz Try.prog 66 = 1 := by kernel_rfl
@[go_sem] theorem tel_66 : tel Try.prog 66 = (none : Option TypeId) := by kernel_rfl
@[go_sem] theorem tarr_66 : tarr Try.prog 66 = (none : Option (Nat × TypeId)) := by kernel_rfl
@[go_sem] theorem tfld_66 : tfld Try.prog 66 = (none : Option (List (Nat × TypeId))) := by kernel_rfl
@[go_sem] theorem tint_66 : tint Try.prog 66 = (none : Option IntKind) := by kernel_rfl
@[go_sem] theorem tstr_66 : tstr Try.prog 66 = false := by kernel_rfl
@[go_sem] theorem tagg_66 : tagg Try.prog 66 = (some false : Option Bool) := by kernel_rfl
@[go_sem] theorem tby_66 : tby Try.prog 66 = 8 := by kernel_rfl
@[go_sem] theorem tkind_66 : tkind Try.prog 66 = (none : Option Nat) := by kernel_rfl
@[go_sem] theorem teq_66 : teq Try.prog 66 = (none : Option (List Nat)) := by kernel_rfl
@[go_sem] theorem tzA_66 : tzA Try.prog 66 = (some (AV.v Value.nilFunc) : Option AV) := by kernel_rfl
@[go_sem] theorem tund_67 : tund Try.prog 67 = true := by kernel_rfl
@[go_sem] theorem tsz_67 : tsz Try.prog 67 = 256 := by kernel_rfl
@[go_sem] theorem tel_67 : tel Try.prog 67 = (none : Option TypeId) := by kernel_rfl
@[go_sem] theorem tarr_67 : tarr Try.prog 67 = (some (256, 3) : Option (Nat × TypeId)) := by kernel_rfl
@[go_sem] theorem tfld_67 : tfld Try.prog 67 = (none : Option (List (Nat × TypeId))) := by kernel_rfl
@[go_sem] theorem tint_67 : tint Try.prog 67 = (none : Option IntKind) := by kernel_rfl
@[go_sem] theorem tstr_67 : tstr Try.prog 67 = false := by kernel_rfl
@[go_sem] theorem tagg_67 : tagg Try.prog 67 = (some true : Option Bool) := by kernel_rfl
@[go_sem] theorem tby_67 : tby Try.prog 67 = 2048 := by kernel_rfl
@[go_sem] theorem tkind_67 : tkind Try.prog 67 = (none : Option Nat) := by kernel_rfl
@[go_sem] theorem teq_67 : teq Try.prog 67 = (none : Option (List Nat)) := by kernel_rfl
@[go_sem] theorem tund_68 : tund Try.prog 68 = true := by kernel_rfl
@[go_sem] theorem tsz_68 : tsz Try.prog 68 = 1 := by kernel_rfl
@[go_sem] theorem tel_68 : tel Try.prog 68 = (none : Option TypeId) := by kernel_rfl
@[go_sem] theorem tarr_68 : tarr Try.prog 68 = (none : Option (Nat × TypeId)) := by kernel_rfl
@[go_sem] theorem tfld_68 : tfld Try.prog 68 = (none : Option (List (Nat × TypeId))) := by kernel_rfl
@[go_sem] theorem tint_68 : tint Try.prog 68 = (none : Option IntKind) := by kernel_rfl
@[go_sem] theorem tstr_68 : tstr Try.prog 68 = false := by kernel_rfl
@[go_sem] theorem tagg_68 : tagg Try.prog 68 = (some false : Option Bool) := by kernel_rfl
@[go_sem] theorem tby_68 : tby Try.prog 68 = 8 := by kernel_rfl
@[go_sem] theorem tkind_68 : tkind Try.prog 68 = (none : Option Nat) := by kernel_rfl
@[go_sem] theorem teq_68 : teq Try.prog 68 = (none : Option (List Nat)) := by kernel_rfl
@[go_sem] theorem tzA_68 : tzA Try.prog 68 = (some (AV.v Value.nilFunc) : Option AV) := by kernel_rfl
@[go_sem] theorem tund_69 : tund Try.prog 69 = true := by kernel_rfl
@[go_sem] theorem tsz_69 : tsz Try.prog 69 = 1 := by kernel_rfl
@[go_sem] theorem tel_69 : tel Try.prog 69 = (none : Option TypeId) := by kernel_rfl
@[go_sem] theorem tarr_69 : tarr Try.prog 69 = (none : Option (Nat × TypeId)) := by kernel_rfl
@[go_sem] theorem tfld_69 : tfld Try.prog 69 = (none : Option (List (Nat × TypeId))) := by kernel_rfl
@[go_sem] theorem tint_69 : tint Try.prog 69 = (none : Option IntKind) := by kernel_rfl
@[go_sem] theorem tstr_69 : tstr Try.prog 69 = false := by kernel_rfl
@[go_sem] theorem tagg_69 : tagg Try.prog 69 = (some false : Option Bool) := by kernel_rfl
@[go_sem] theorem tby_69 : tby Try.prog 69 = 8 := by kernel_rfl
@[go_sem] theorem tkind_69 : tkind Try.prog 69 = (none : Option Nat) := by kernel_rfl
@[go_sem] theorem teq_69 : teq Try.prog 69 = (none : Option (List Nat)) := by kernel_rfl
@[go_sem] theorem tzA_69 : tzA Try.prog 69 = (some (AV.v Value.nilFunc) : Option AV) := by kernel_rfl
@[go_sem] theorem tund_70 : tund Try.prog 70 = true := by kernel_rfl
@[go_sem] theorem tsz_70 : tsz Try.prog 70 = 64 := by kernel_rfl
@[go_sem] theorem tel_70 : tel Try.prog 70 = (none : Option TypeId) := by kernel_rfl
@[go_sem] theorem tarr_70 : tarr Try.prog 70 = (some (8, 64) : Option (Nat × TypeId)) := by kernel_rfl
@[go_sem] theorem tfld_70 : tfld Try.prog 70 = (none : Option (List (Nat × TypeId))) := by kernel_rfl
@[go_sem] theorem tint_70 : tint Try.prog 70 = (none : Option IntKind) := by kernel_rfl
@[go_sem] theorem tstr_70 : tstr Try.prog 70 = false := by kernel_rfl
@[go_sem] theorem tagg_70 : tagg Try.prog 70 = (some true : Option Bool) := by kernel_rfl
@[go_sem] theorem tby_70 : tby Try.prog 70 = 512 := by kernel_rfl
@[go_sem] theorem tkind_70 : tkind Try.prog 70 = (none : Option Nat) := by kernel_rfl
@[go_sem] theorem teq_70 : teq Try.prog 70 = (none : Option (List Nat)) := by kernel_rfl
@[go_sem] theorem tzA_70 : tzA Try.prog 70 = (some (AV.agg [AV.v (Value.int IntKind.i64 (0)), AV.v (Value.int IntKind.i64 (0)), AV.v (Value.int IntKind.i64 (0)), AV.v (Value.int IntKind.i64 (0)), AV.v (Value.int IntKind.i64 (0)), AV.v (Value.int IntKind.i64 (0)), AV.v (Value.int IntKind.i64 (0)), AV.v (Value.int IntKind.i64 (0)), AV.v (Value.int IntKind.i64 (0)), AV.v (Value.int IntKind.i64 (0)), AV.v (Value.int IntKind.i64 (0)), AV.v (Value.int IntKind.i64 (0)), AV.v (Value.int IntKind.i64 (0)), AV.v (Value.int IntKind.i64 (0)), AV.v (Value.int IntKind.i64 (0)), AV.v (Value.int IntKind.i64 (0)), AV.v (Value.int IntKind.i64 (0)), AV.v (Value.int IntKind.i64 (0)), AV.v (Value.int IntKind.i64 (0)), AV.v (Value.int IntKind.i64 (0)), AV.v (Value.int IntKind.i64 (0)), AV.v (Value.int IntKind.i64 (0)), AV.v (Value.int IntKind.i64 (0)), AV.v (Value.int IntKind.i64 (0)), AV.v (Value.int IntKind.i64 (0)), AV.v (Value.int IntKind.i64 (0)), AV.v (Value.int IntKind.i64 (0)), AV.v (Value.int IntKind.i64 (0)), AV.v (Value.int IntKind.i64 (0)), AV.v (Value.int IntKind.i64 (0)), AV.v (Value.int IntKind.i64 (0)), AV.v (Value.int IntKind.i64 (0)), AV.v (Value.int IntKind.i64 (0)), AV.v (Value.int IntKind.i64 (0)), AV.v (Value.int IntKind.i64 (0)), AV.v (Value.int IntKind.i64 (0)), AV.v (Value.int IntKind.i64 (0)), AV.v (Value.int IntKind.i64 (0)), AV.v (Value.int IntKind.i64 (0)), AV.v (Value.int IntKind.i64 (0)), AV.v (Value.int IntKind.i64 (0)), AV.v (Value.int IntKind.i64 (0)), AV.v (Value.int IntKind.i64 (0)), AV.v (Value.int IntKind.i64 (0)), AV.v (Value.int IntKind.i64 (0)), AV.v (Value.int IntKind.i64 (0)), AV.v (Value.int IntKind.i64 (0)), AV.v (Value.int IntKind.i64 (0)), AV.v (Value.int IntKind.i64 (0)), AV.v (Value.int IntKind.i64 (0)), AV.v (Value.int IntKind.i64 (0)), AV.v (Value.int IntKind.i64 (0)), AV.v (Value.int IntKind.i64 (0)), AV.v (Value.int IntKind.i64 (0)), AV.v (Value.int IntKind.i64 (0)), AV.v (Value.int IntKind.i64 (0)), AV.v (Value.int IntKind.i64 (0)), AV.v (Value.int IntKind.i64 (0)), AV.v (Value.int IntKind.i64 (0)), AV.v (Value.int IntKind.i64 (0)), AV.v (Value.int IntKind.i64 (0)), AV.v (Value.int IntKind.i64 (0)), AV.v (Value.int IntKind.i64 (0)), AV.v (Value.int IntKind.i64 (0))]) : Option AV) := by kernel_rfl
@[go_sem] theorem tund_71 : tund Try.prog 71 = true := by kernel_rfl
@[go_sem] theorem tsz_71 : tsz Try.prog 71 = 64 := by kernel_rfl
@[go_sem] theorem tel_71 : tel Try.prog 71 = (none : Option TypeId) := by kernel_rfl
@[go_sem] theorem tarr_71 : tarr Try.prog 71 = (some (8, 64) : Option (Nat × TypeId)) := by kernel_rfl
@[go_sem] theorem tfld_71 : tfld Try.prog 71 = (none : Option (List (Nat × TypeId))) := by kernel_rfl
@[go_sem] theorem tint_71 : tint Try.prog 71 = (none : Option IntKind) := by kernel_rfl
@[go_sem] theorem tstr_71 : tstr Try.prog 71 = false := by kernel_rfl
@[go_sem] theorem tagg_71 : tagg Try.prog 71 = (some true : Option Bool) := by kernel_rfl
@[go_sem] theorem tby_71 : tby Try.prog 71 = 512 := by kernel_rfl
@[go_sem] theorem tkind_71 : tkind Try.prog 71 = (none : Option Nat) := by kernel_rfl
@[go_sem] theorem teq_71 : teq Try.prog 71 = (none : Option (List Nat)) := by kernel_rfl
@[go_sem] theorem tzA_71 : tzA Try.prog 71 = (some (AV.agg [AV.v (Value.int IntKind.i64 (0)), AV.v (Value.int IntKind.i64 (0)), AV.v (Value.int IntKind.i64 (0)), AV.v (Value.int IntKind.i64 (0)), AV.v (Value.int IntKind.i64 (0)), AV.v (Value.int IntKind.i64 (0)), AV.v (Value.int IntKind.i64 (0)), AV.v (Value.int IntKind.i64 (0)), AV.v (Value.int IntKind.i64 (0)), AV.v (Value.int IntKind.i64 (0)), AV.v (Value.int IntKind.i64 (0)), AV.v (Value.int IntKind.i64 (0)), AV.v (Value.int IntKind.i64 (0)), AV.v (Value.int IntKind.i64 (0)), AV.v (Value.int IntKind.i64 (0)), AV.v (Value.int IntKind.i64 (0)), AV.v (Value.int IntKind.i64 (0)), AV.v (Value.int IntKind.i64 (0)), AV.v (Value.int IntKind.i64 (0)), AV.v (Value.int IntKind.i64 (0)), AV.v (Value.int IntKind.i64 (0)), AV.v (Value.int IntKind.i64 (0)), AV.v (Value.int IntKind.i64 (0)), AV.v (Value.int IntKind.i64 (0)), AV.v (Value.int IntKind.i64 (0)), AV.v (Value.int IntKind.i64 (0)), AV.v (Value.int IntKind.i64 (0)), AV.v (Value.int IntKind.i64 (0)), AV.v (Value.int IntKind.i64 (0)), AV.v (Value.int IntKind.i64 (0)), AV.v (Value.int IntKind.i64 (0)), AV.v (Value.int IntKind.i64 (0)), AV.v (Value.int IntKind.i64 (0)), AV.v (Value.int IntKind.i64 (0)), AV.v (Value.int IntKind.i64 (0)), AV.v (Value.int IntKind.i64 (0)), AV.v (Value.int IntKind.i64 (0)), AV.v (Value.int IntKind.i64 (0)), AV.v (Value.int IntKind.i64 (0)), AV.v (Value.int IntKind.i64 (0)), AV.v (Value.int IntKind.i64 (0)), AV.v (Value.int IntKind.i64 (0)), AV.v (Value.int IntKind.i64 (0)), AV.v (Value.int IntKind.i64 (0)), AV.v (Value.int IntKind.i64 (0)), AV.v (Value.int IntKind.i64 (0)), AV.v (Value.int IntKind.i64 (0)), AV.v (Value.int IntKind.i64 (0)), AV.v (Value.int IntKind.i64 (0)), AV.v (Value.int IntKind.i64 (0)), AV.v (Value.int IntKind.i64 (0)), AV.v (Value.int IntKind.i64 (0)), AV.v (Value.int IntKind.i64 (0)), AV.v (Value.int IntKind.i64 (0)), AV.v (Value.int IntKind.i64 (0)), AV.v (Value.int IntKind.i64 (0)), AV.v (Value.int IntKind.i64 (0)), AV.v (Value.int IntKind.i64 (0)), AV.v (Value.int IntKind.i64 (0)), AV.v (Value.int IntKind.i64 (0)), AV.v (Value.int IntKind.i64 (0)), AV.v (Value.int IntKind.i64 (0)), AV.v (Value.int IntKind.i64 (0)), AV.v (Value.int IntKind.i64 (0))]) : Option AV) := by kernel_rfl
@[go_sem] theorem tund_72 : tund Try.prog 72 = true := by kernel_rfl
@[go_sem] theorem tsz_72 : tsz Try.prog 72 = 1 := by kernel_rfl
@[go_sem] theorem tel_72 : tel Try.prog 72 = (none : Option TypeId) := by kernel_rfl
@[go_sem] theorem tarr_72 : tarr Try.prog 72 = (none : Option (Nat × TypeId)) := by kernel_rfl
@[go_sem] theorem tfld_72 : tfld Try.prog 72 = (none : Option (List (Nat × TypeId))) := by kernel_rfl
@[go_sem] theorem tint_72 : tint Try.prog 72 = (none : Option IntKind) := by kernel_rfl
@[go_sem] theorem tstr_72 : tstr Try.prog 72 = false := by kernel_rfl
@[go_sem] theorem tagg_72 : tagg Try.prog 72 = (some false : Option Bool) := by kernel_rfl
@[go_sem] theorem tby_72 : tby Try.prog 72 = 8 := by kernel_rfl
@[go_sem] theorem tkind_72 : tkind Try.prog 72 = (none : Option Nat) := by kernel_rfl
@[go_sem] theorem teq_72 : teq Try.prog 72 = (none : Option (List Nat)) := by kernel_rfl
@[go_sem] theorem tzA_72 : tzA Try.prog 72 = (some (AV.v Value.nilFunc) : Option AV) := by kernel_rfl
@[go_sem] theorem tund_73 : tund Try.prog 73 = true := by kernel_rfl
@[go_sem] theorem tsz_73 : tsz Try.prog 73 = 1 := by kernel_rfl
@[go_sem] theorem tel_73 : tel Try.prog 73 = (none : Option TypeId) := by kernel_rfl
@[go_sem] theorem tarr_73 : tarr Try.prog 73 = (none : Option (Nat × TypeId)) := by kernel_rfl
@[go_sem] theorem tfld_73 : tfld Try.prog 73 = (none : Option (List (Nat × TypeId))) := by kernel_rfl
@[go_sem] theorem tint_73 : tint Try.prog 73 = (none : Option IntKind) := by kernel_rfl
@[go_sem] theorem tstr_73 : tstr Try.prog 73 = false := by kernel_rfl
@[go_sem] theorem tagg_73 : tagg Try.prog 73 = (some false : Option Bool) := by kernel_rfl
@[go_sem] theorem tby_73 : tby Try.prog 73 = 8 := by kernel_rfl
@[go_sem] theorem tkind_73 : tkind Try.prog 73 = (none : Option Nat) := by kernel_rfl
@[go_sem] theorem teq_73 : teq Try.prog 73 = (none : Option (List Nat)) := by kernel_rfl
@[go_sem] theorem tzA_73 : tzA Try.prog 73 = (some (AV.v Value.nilFunc) : Option AV) := by kernel_rfl
@[go_sem] theorem tund_74 : tund Try.prog 74 = true := by kernel_rfl
@[go_sem] theorem tsz_74 : tsz Try.prog 74 = 1 := by kernel_rfl
@[go_sem] theorem tel_74 : tel Try.prog 74 = (none : Option TypeId) := by kernel_rfl
@[go_sem] theorem tarr_74 : tarr Try.prog 74 = (none : Option (Nat × TypeId)) := by kernel_rfl
@[go_sem] theorem tfld_74 : tfld Try.prog 74 = (none : Option (List (Nat × TypeId))) := by kernel_rfl
@[go_sem] theorem tint_74 : tint Try.prog 74 = (none : Option IntKind) := by kernel_rfl
@[go_sem] theorem tstr_74 : tstr Try.prog 74 = false := by kernel_rfl
@[go_sem] theorem tagg_74 : tagg Try.prog 74 = (some false : Option Bool) := by kernel_rfl
@[go_sem] theorem tby_74 : tby Try.prog 74 = 8 := by kernel_rfl
@[go_sem] theorem tkind_74 : tkind Try.prog 74 = (none : Option Nat) := by kernel_rfl
@[go_sem] theorem teq_74 : teq Try.prog 74 = (none : Option (List Nat)) := by kernel_rfl
@[go_sem] theorem tzA_74 : tzA Try.prog 74 = (some (AV.v Value.nilFunc) : Option AV) := by kernel_rfl
@[go_sem] theorem tund_75 : tund Try.prog 75 = true := by kernel_rfl
@[go_sem] theorem tsz_75 : tsz Try.prog 75 = 1 := by kernel_rfl
@[go_sem] theorem tel_75 : tel Try.prog 75 = (none : Option TypeId) := by kernel_rfl
@[go_sem] theorem tarr_75 : tarr Try.prog 75 = (none : Option (Nat × TypeId)) := by kernel_rfl
@[go_sem] theorem tfld_75 : tfld Try.prog 75 = (none : Option (List (Nat × TypeId))) := by kernel_rfl
@[go_sem] theorem tint_75 : tint Try.prog 75 = (none : Option IntKind) := by kernel_rfl
@[go_sem] theorem tstr_75 : tstr Try.prog 75 = false := by kernel_rfl
@[go_sem] theorem tagg_75 : tagg Try.prog 75 = (some false : Option Bool) := by kernel_rfl
@[go_sem] theorem tby_75 : tby Try.prog 75 = 8 := by kernel_rfl
@[go_sem] theorem tkind_75 : tkind Try.prog 75 = (none : Option Nat) := by kernel_rfl
@[go_sem] theorem teq_75 : teq Try.prog 75 = (none : Option (List Nat)) := by kernel_rfl
@[go_sem] theorem tzA_75 : tzA Try.prog 75 = (some (AV.v Value.nilFunc) : Option AV) := by kernel_rfl
@[go_sem] theorem tund_76 : tund Try.prog 76 = true := by kernel_rfl
@[go_sem] theorem tsz_76 : tsz Try.prog 76 = 1 := by kernel_rfl
@[go_sem] theorem tel_76 : tel Try.prog 76 = (none : Option TypeId) := by kernel_rfl
@[go_sem] theorem tarr_76 : tarr Try.prog 76 = (none : Option (Nat × TypeId)) := by kernel_rfl
@[go_sem] theorem tfld_76 : tfld Try.prog 76 = (none : Option (List (Nat × TypeId))) := by kernel_rfl
@[go_sem] theorem tint_76 : tint Try.prog 76 = (none : Option IntKind) := by kernel_rfl
@[go_sem] theorem tstr_76 : tstr Try.prog 76 = false := by kernel_rfl
@[go_sem] theorem tagg_76 : tagg Try.prog 76 = (some false : Option Bool) := by kernel_rfl
@[go_sem] theorem tby_76 : tby Try.prog 76 = 8 := by kernel_rfl
@[go_sem] theorem tkind_76 : tkind Try.prog 76 = (none : Option Nat) := by kernel_rfl
@[go_sem] theorem teq_76 : teq Try.prog 76 = (none : Option (List Nat)) := by kernel_rfl
@[go_sem] theorem tzA_76 : tzA Try.prog 76 = (some (AV.v Value.nilFunc) : Option AV) := by kernel_rfl
@[go_sem] theorem tund_77 : tund Try.prog 77 = true := by kernel_rfl
@[go_sem] theorem tsz_77 : tsz Try.prog 77 = 1 := by kernel_rfl
@[go_sem] theorem tel_77 : tel Try.prog 77 = (none : Option TypeId) := by kernel_rfl
@[go_sem] theorem tarr_77 : tarr Try.prog 77 = (none : Option (Nat × TypeId)) := by kernel_rfl
@[go_sem] theorem tfld_77 : tfld Try.prog 77 = (none : Option (List (Nat × TypeId))) := by kernel_rfl
@[go_sem] theorem tint_77 : tint Try.prog 77 = (none : Option IntKind) := by kernel_rfl
@[go_sem] theorem tstr_77 : tstr Try.prog 77 = false := by kernel_rfl
@[go_sem] theorem tagg_77 : tagg Try.prog 77 = (some false : Option Bool) := by kernel_rfl
@[go_sem] theorem tby_77 : tby Try.prog 77 = 8 := by kernel_rfl
@[go_sem] theorem tkind_77 : tkind Try.prog 77 = (none : Option Nat) := by kernel_rfl
@[go_sem] theorem teq_77 : teq Try.prog 77 = (none : Option (List Nat)) := by kernel_rfl
@[go_sem] theorem tzA_77 : tzA Try.prog 77 = (some (AV.v Value.nilFunc) : Option AV) := by kernel_rfl
@[go_sem] theorem tund_78 : tund Try.prog 78 = true := by kernel_rfl
@[go_sem] theorem tsz_78 : tsz Try.prog 78 = 1 := by kernel_rfl
@[go_sem] theorem tel_78 : tel Try.prog 78 = (none : Option TypeId) := by kernel_rfl
@[go_sem] theorem tarr_78 : tarr Try.prog 78 = (none : Option (Nat × TypeId)) := by kernel_rfl
@[go_sem] theorem tfld_78 : tfld Try.prog 78 = (none : Option (List (Nat × TypeId))) := by kernel_rfl
@[go_sem] theorem tint_78 : tint Try.prog 78 = (none : Option IntKind) := by kernel_rfl
@[go_sem] theorem tstr_78 : tstr Try.prog 78 = false := by kernel_rfl
@[go_sem] theorem tagg_78 : tagg Try.prog 78 = (some false : Option Bool) := by kernel_rfl
@[go_sem] theorem tby_78 : tby Try.prog 78 = 8 := by kernel_rfl
@[go_sem] theorem tkind_78 : tkind Try.prog 78 = (none : Option Nat) := by kernel_rfl
@[go_sem] theorem teq_78 : teq Try.prog 78 = (none : Option (List Nat)) := by kernel_rfl
@[go_sem] theorem tzA_78 : tzA Try.prog 78 = (some (AV.v (Value.pointer none)) : Option AV) := by kernel_rfl
@[go_sem] theorem tund_79 : tund Try.prog 79 = true := by kernel_rfl
@[go_sem] theorem tsz_79 : tsz Try.prog 79 = 1 := by kernel_rfl
@[go_sem] theorem tel_79 : tel Try.prog 79 = (none : Option TypeId) := by kernel_rfl
@[go_sem] theorem tarr_79 : tarr Try.prog 79 = (none : Option (Nat × TypeId)) := by kernel_rfl
@[go_sem] theorem tfld_79 : tfld Try.prog 79 = (none : Option (List (Nat × TypeId))) := by kernel_rfl
@[go_sem] theorem tint_79 : tint Try.prog 79 = (none : Option IntKind) := by kernel_rfl
@[go_sem] theorem tstr_79 : tstr Try.prog 79 = false := by kernel_rfl
@[go_sem] theorem tagg_79 : tagg Try.prog 79 = (some false : Option Bool) := by kernel_rfl
@[go_sem] theorem tby_79 : tby Try.prog 79 = 8 := by kernel_rfl
@[go_sem] theorem tkind_79 : tkind Try.prog 79 = (none : Option Nat) := by kernel_rfl
@[go_sem] theorem teq_79 : teq Try.prog 79 = (none : Option (List Nat)) := by kernel_rfl
@[go_sem] theorem tzA_79 : tzA Try.prog 79 = (some (AV.v (Value.map none)) : Option AV) := by kernel_rfl
@[go_sem] theorem tund_80 : tund Try.prog 80 = true := by kernel_rfl
@[go_sem] theorem tsz_80 : tsz Try.prog 80 = 1 := by kernel_rfl
@[go_sem] theorem tel_80 : tel Try.prog 80 = (none : Option TypeId) := by kernel_rfl
@[go_sem] theorem tarr_80 : tarr Try.prog 80 = (none : Option (Nat × TypeId)) := by kernel_rfl
@[go_sem] theorem tfld_80 : tfld Try.prog 80 = (none : Option (List (Nat × TypeId))) := by kernel_rfl
@[go_sem] theorem tint_80 : tint Try.prog 80 = (none : Option IntKind) := by kernel_rfl
@[go_sem] theorem tstr_80 : tstr Try.prog 80 = false := by kernel_rfl
@[go_sem] theorem tagg_80 : tagg Try.prog 80 = (some false : Option Bool) := by kernel_rfl
@[go_sem] theorem tby_80 : tby Try.prog 80 = 8 := by kernel_rfl
@[go_sem] theorem tkind_80 : tkind Try.prog 80 = (none : Option Nat) := by kernel_rfl
@[go_sem] theorem teq_80 : teq Try.prog 80 = (none : Option (List Nat)) := by kernel_rfl
@[go_sem] theorem tzA_80 : tzA Try.prog 80 = (some (AV.v Value.nilFunc) : Option AV) := by kernel_rfl
@[go_sem] theorem tund_81 : tund Try.prog 81 = true := by kernel_rfl
@[go_sem] theorem tsz_81 : tsz Try.prog 81 = 1 := by kernel_rfl
@[go_sem] theorem tel_81 : tel Try.prog 81 = (none : Option TypeId) := by kernel_rfl
@[go_sem] theorem tarr_81 : tarr Try.prog 81 = (none : Option (Nat × TypeId)) := by kernel_rfl
@[go_sem] theorem tfld_81 : tfld Try.prog 81 = (none : Option (List (Nat × TypeId))) := by kernel_rfl
@[go_sem] theorem tint_81 : tint Try.prog 81 = (none : Option IntKind) := by kernel_rfl
@[go_sem] theorem tstr_81 : tstr Try.prog 81 = false := by kernel_rfl
@[go_sem] theorem tagg_81 : tagg Try.prog 81 = (some false : Option Bool) := by kernel_rfl
@[go_sem] theorem tby_81 : tby Try.prog 81 = 8 := by kernel_rfl
@[go_sem] theorem tkind_81 : tkind Try.prog 81 = (none : Option Nat) := by kernel_rfl
@[go_sem] theorem teq_81 : teq Try.prog 81 = (none : Option (List Nat)) := by kernel_rfl
@[go_sem] theorem tzA_81 : tzA Try.prog 81 = (some (AV.v Value.nilFunc) : Option AV) := by kernel_rfl
@[go_sem] theorem tund_82 : tund Try.prog 82 = true := by kernel_rfl
@[go_sem] theorem tsz_82 : tsz Try.prog 82 = 1 := by kernel_rfl
@[go_sem] theorem tel_82 : tel Try.prog 82 = (none : Option TypeId) := by kernel_rfl
@[go_sem] theorem tarr_82 : tarr Try.prog 82 = (none : Option (Nat × TypeId)) := by kernel_rfl
@[go_sem] theorem tfld_82 : tfld Try.prog 82 = (none : Option (List (Nat × TypeId))) := by kernel_rfl
@[go_sem] theorem tint_82 : tint Try.prog 82 = (none : Option IntKind) := by kernel_rfl
@[go_sem] theorem tstr_82 : tstr Try.prog 82 = false := by kernel_rfl
@[go_sem] theorem tagg_82 : tagg Try.prog 82 = (some false : Option Bool) := by kernel_rfl
@[go_sem] theorem tby_82 : tby Try.prog 82 = 8 := by kernel_rfl
@[go_sem] theorem tkind_82 : tkind Try.prog 82 = (none : Option Nat) := by kernel_rfl
@[go_sem] theorem teq_82 : teq Try.prog 82 = (none : Option (List Nat)) := by kernel_rfl
@[go_sem] theorem tzA_82 : tzA Try.prog 82 = (some (AV.v Value.nilFunc) : Option AV) := by kernel_rfl
@[go_sem] theorem tund_83 : tund Try.prog 83 = true := by kernel_rfl
@[go_sem] theorem tsz_83 : tsz Try.prog 83 = 1 := by kernel_rfl
@[go_sem] theorem tel_83 : tel Try.prog 83 = (none : Option TypeId) := by kernel_rfl
@[go_sem] theorem tarr_83 : tarr Try.prog 83 = (none : Option (Nat × TypeId)) := by kernel_rfl
@[go_sem] theorem tfld_83 : tfld Try.prog 83 = (none : Option (List (Nat × TypeId))) := by kernel_rfl
@[go_sem] theorem tint_83 : tint Try.prog 83 = (none : Option IntKind) := by kernel_rfl
@[go_sem] theorem tstr_83 : tstr Try.prog 83 = false := by kernel_rfl
@[go_sem] theorem tagg_83 : tagg Try.prog 83 = (some false : Option Bool) := by kernel_rfl
@[go_sem] theorem tby_83 : tby Try.prog 83 = 8 := by kernel_rfl
@[go_sem] theorem tkind_83 : tkind Try.prog 83 = (none : Option Nat) := by kernel_rfl
@[go_sem] theorem teq_83 : teq Try.prog 83 = (none : Option (List Nat)) := by kernel_rfl
@[go_sem] theorem tzA_83 : tzA Try.prog 83 = (some (AV.v Value.nilFunc) : Option AV) := by kernel_rfl
@[go_sem] theorem tund_84 : tund Try.prog 84 = true := by kernel_rfl
@[go_sem] theorem tsz_84 : tsz Try.prog 84 = 1 := by kernel_rfl
@[go_sem] theorem tel_84 : tel Try.prog 84 = (none : Option TypeId) := by kernel_rfl
@[go_sem] theorem tarr_84 : tarr Try.prog 84 = (none : Option (Nat × TypeId)) := by kernel_rfl
@[go_sem] theorem tfld_84 : tfld Try.prog 84 = (none : Option (List (Nat × TypeId))) := by kernel_rfl
@[go_sem] theorem tint_84 : tint Try.prog 84 = (none : Option IntKind) := by kernel_rfl
@[go_sem] theorem tstr_84 : tstr Try.prog 84 = false := by kernel_rfl
@[go_sem] theorem tagg_84 : tagg Try.prog 84 = (some false : Option Bool) := by kernel_rfl
@[go_sem] theorem tby_84 : tby Try.prog 84 = 8 := by kernel_rfl
@[go_sem] theorem tkind_84 : tkind Try.prog 84 = (none : Option Nat) := by kernel_rfl
@[go_sem] theorem teq_84 : teq Try.prog 84 = (none : Option (List Nat)) := by kernel_rfl
@[go_sem] theorem tzA_84 : tzA Try.prog 84 = (some (AV.v Value.nilFunc) : Option AV) := by kernel_rfl
@[go_sem] theorem tund_85 : tund Try.prog 85 = true := by kernel_rfl
@[go_sem] theorem tsz_85 : tsz Try.prog 85 = 1 := by kernel_rfl
@[go_sem] theorem tel_85 : tel Try.prog 85 = (none : Option TypeId) := by kernel_rfl
@[go_sem] theorem tarr_85 : tarr Try.prog 85 = (none : Option (Nat × TypeId)) := by kernel_rfl
@[go_sem] theorem tfld_85 : tfld Try.prog 85 = (none : Option (List (Nat × TypeId))) := by kernel_rfl
@[go_sem] theorem tint_85 : tint Try.prog 85 = (none : Option IntKind) := by kernel_rfl
@[go_sem] theorem tstr_85 : tstr Try.prog 85 = false := by kernel_rfl
@[go_sem] theorem tagg_85 : tagg Try.prog 85 = (some false : Option Bool) := by kernel_rfl
@[go_sem] theorem tby_85 : tby Try.prog 85 = 8 := by kernel_rfl
@[go_sem] theorem tkind_85 : tkind Try.prog 85 = (none : Option Nat) := by kernel_rfl
@[go_sem] theorem teq_85 : teq Try.prog 85 = (none : Option (List Nat)) := by kernel_rfl
@[go_sem] theorem tzA_85 : tzA Try.prog 85 = (some (AV.v Value.nilFunc) : Option AV) := by kernel_rfl
@[go_sem] theorem tund_86 : tund Try.prog 86 = true := by kernel_rfl
@[go_sem] theorem tsz_86 : tsz Try.prog 86 = 4 := by kernel_rfl
@[go_sem] theorem tel_86 : tel Try.prog 86 = (none : Option TypeId) := by kernel_rfl
@[go_sem] theorem tarr_86 : tarr Try.prog 86 = (none : Option (Nat × TypeId)) := by kernel_rfl
@[go_sem] theorem tfld_86 : tfld Try.prog 86 = (some [(0, 17), (1, 17), (2, 17), (3, 9)] : Option (List (Nat × TypeId))) := by kernel_rfl
@[go_sem] theorem tint_86 : tint Try.prog 86 = (none : Option IntKind) := by kernel_rfl
@[go_sem] theorem tstr_86 : tstr Try.prog 86 = false := by kernel_rfl
@[go_sem] theorem tagg_86 : tagg Try.prog 86 = (some true : Option Bool) := by kernel_rfl
@[go_sem] theorem tby_86 : tby Try.prog 86 = 40 := by kernel_rfl
@[go_sem] theorem tkind_86 : tkind Try.prog 86 = (none : Option Nat) := by kernel_rfl
@[go_sem] theorem teq_86 : teq Try.prog 86 = (none : Option (List Nat)) := by kernel_rfl
@[go_sem] theorem tzA_86 : tzA Try.prog 86 = (some (AV.agg [AV.v (Value.pointer none), AV.v (Value.pointer none), AV.v (Value.pointer none), AV.v (Value.string ByteArray.empty)]) : Option AV) := by kernel_rfl
@[go_sem] theorem tund_87 : tund Try.prog 87 = true := by kernel_rfl
@[go_sem] theorem tsz_87 : tsz Try.prog 87 = 4 := by kernel_rfl
@[go_sem] theorem tel_87 : tel Try.prog 87 = (none : Option TypeId) := by kernel_rfl
@[go_sem] theorem tarr_87 : tarr Try.prog 87 = (none : Option (Nat × TypeId)) := by kernel_rfl
@[go_sem] theorem tfld_87 : tfld Try.prog 87 = (some [(0, 17), (1, 17), (2, 17), (3, 9)] : Option (List (Nat × TypeId))) := by kernel_rfl
@[go_sem] theorem tint_87 : tint Try.prog 87 = (none : Option IntKind) := by kernel_rfl
@[go_sem] theorem tstr_87 : tstr Try.prog 87 = false := by kernel_rfl
@[go_sem] theorem tagg_87 : tagg Try.prog 87 = (some true : Option Bool) := by kernel_rfl
@[go_sem] theorem tby_87 : tby Try.prog 87 = 40 := by kernel_rfl
@[go_sem] theorem tkind_87 : tkind Try.prog 87 = (none : Option Nat) := by kernel_rfl
@[go_sem] theorem teq_87 : teq Try.prog 87 = (none : Option (List Nat)) := by kernel_rfl
@[go_sem] theorem tzA_87 : tzA Try.prog 87 = (some (AV.agg [AV.v (Value.pointer none), AV.v (Value.pointer none), AV.v (Value.pointer none), AV.v (Value.string ByteArray.empty)]) : Option AV) := by kernel_rfl
@[go_sem] theorem tund_88 : tund Try.prog 88 = true := by kernel_rfl
@[go_sem] theorem tsz_88 : tsz Try.prog 88 = 0 := by kernel_rfl
@[go_sem] theorem tel_88 : tel Try.prog 88 = (none : Option TypeId) := by kernel_rfl
@[go_sem] theorem tarr_88 : tarr Try.prog 88 = (some (0, 16) : Option (Nat × TypeId)) := by kernel_rfl
@[go_sem] theorem tfld_88 : tfld Try.prog 88 = (none : Option (List (Nat × TypeId))) := by kernel_rfl
@[go_sem] theorem tint_88 : tint Try.prog 88 = (none : Option IntKind) := by kernel_rfl
@[go_sem] theorem tstr_88 : tstr Try.prog 88 = false := by kernel_rfl
@[go_sem] theorem tagg_88 : tagg Try.prog 88 = (some true : Option Bool) := by kernel_rfl
@[go_sem] theorem tby_88 : tby Try.prog 88 = 0 := by kernel_rfl
@[go_sem] theorem tkind_88 : tkind Try.prog 88 = (none : Option Nat) := by kernel_rfl
@[go_sem] theorem teq_88 : teq Try.prog 88 = (none : Option (List Nat)) := by kernel_rfl
@[go_sem] theorem tzA_88 : tzA Try.prog 88 = (some (AV.agg []) : Option AV) := by kernel_rfl
@[go_sem] theorem tund_89 : tund Try.prog 89 = true := by kernel_rfl
@[go_sem] theorem tsz_89 : tsz Try.prog 89 = 0 := by kernel_rfl
@[go_sem] theorem tel_89 : tel Try.prog 89 = (none : Option TypeId) := by kernel_rfl
@[go_sem] theorem tarr_89 : tarr Try.prog 89 = (none : Option (Nat × TypeId)) := by kernel_rfl
@[go_sem] theorem tfld_89 : tfld Try.prog 89 = (some [(0, 88)] : Option (List (Nat × TypeId))) := by kernel_rfl
@[go_sem] theorem tint_89 : tint Try.prog 89 = (none : Option IntKind) := by kernel_rfl
@[go_sem] theorem tstr_89 : tstr Try.prog 89 = false := by kernel_rfl
@[go_sem] theorem tagg_89 : tagg Try.prog 89 = (some true : Option Bool) := by kernel_rfl
@[go_sem] theorem tby_89 : tby Try.prog 89 = 0 := by kernel_rfl
@[go_sem] theorem tkind_89 : tkind Try.prog 89 = (none : Option Nat) := by kernel_rfl
@[go_sem] theorem teq_89 : teq Try.prog 89 = (none : Option (List Nat)) := by kernel_rfl
@[go_sem] theorem tzA_89 : tzA Try.prog 89 = (some (AV.agg []) : Option AV) := by kernel_rfl
@[go_sem] theorem tund_90 : tund Try.prog 90 = true := by kernel_rfl
@[go_sem] theorem tsz_90 : tsz Try.prog 90 = 0 := by kernel_rfl
@[go_sem] theorem tel_90 : tel Try.prog 90 = (none : Option TypeId) := by kernel_rfl
@[go_sem] theorem tarr_90 : tarr Try.prog 90 = (none : Option (Nat × TypeId)) := by kernel_rfl
@[go_sem] theorem tfld_90 : tfld Try.prog 90 = (some [(0, 88)] : Option (List (Nat × TypeId))) := by kernel_rfl
@[go_sem] theorem tint_90 : tint Try.prog 90 = (none : Option IntKind) := by kernel_rfl
@[go_sem] theorem tstr_90 : tstr Try.prog 90 = false := by kernel_rfl
@[go_sem] theorem tagg_90 : tagg Try.prog 90 = (some true : Option Bool) := by kernel_rfl
@[go_sem] theorem tby_90 : tby Try.prog 90 = 0 := by kernel_rfl
@[go_sem] theorem tkind_90 : tkind Try.prog 90 = (none : Option Nat) := by kernel_rfl
@[go_sem] theorem teq_90 : teq Try.prog 90 = (none : Option (List Nat)) := by kernel_rfl
@[go_sem] theorem tzA_90 : tzA Try.prog 90 = (some (AV.agg []) : Option AV) := by kernel_rfl
@[go_sem] theorem tund_91 : tund Try.prog 91 = true := by kernel_rfl
@[go_sem] theorem tsz_91 : tsz Try.prog 91 = 1 := by kernel_rfl
@[go_sem] theorem tel_91 : tel Try.prog 91 = (none : Option TypeId) := by kernel_rfl
@[go_sem] theorem tarr_91 : tarr Try.prog 91 = (none : Option (Nat × TypeId)) := by kernel_rfl
@[go_sem] theorem tfld_91 : tfld Try.prog 91 = (none : Option (List (Nat × TypeId))) := by kernel_rfl
@[go_sem] theorem tint_91 : tint Try.prog 91 = (none : Option IntKind) := by kernel_rfl
@[go_sem] theorem tstr_91 : tstr Try.prog 91 = false := by kernel_rfl
@[go_sem] theorem tagg_91 : tagg Try.prog 91 = (some false : Option Bool) := by kernel_rfl
@[go_sem] theorem tby_91 : tby Try.prog 91 = 8 := by kernel_rfl
@[go_sem] theorem tkind_91 : tkind Try.prog 91 = (none : Option Nat) := by kernel_rfl
@[go_sem] theorem teq_91 : teq Try.prog 91 = (none : Option (List Nat)) := by kernel_rfl
@[go_sem] theorem tzA_91 : tzA Try.prog 91 = (some (AV.v Value.nilFunc) : Option AV) := by kernel_rfl
@[go_sem] theorem tund_92 : tund Try.prog 92 = true := by kernel_rfl
@[go_sem] theorem tsz_92 : tsz Try.prog 92 = 1 := by kernel_rfl
@[go_sem] theorem tel_92 : tel Try.prog 92 = (none : Option TypeId) := by kernel_rfl
@[go_sem] theorem tarr_92 : tarr Try.prog 92 = (none : Option (Nat × TypeId)) := by kernel_rfl
@[go_sem] theorem tfld_92 : tfld Try.prog 92 = (none : Option (List (Nat × TypeId))) := by kernel_rfl
@[go_sem] theorem tint_92 : tint Try.prog 92 = (some IntKind.u32 : Option IntKind) := by kernel_rfl
@[go_sem] theorem tstr_92 : tstr Try.prog 92 = false := by kernel_rfl
@[go_sem] theorem tagg_92 : tagg Try.prog 92 = (some false : Option Bool) := by kernel_rfl
@[go_sem] theorem tby_92 : tby Try.prog 92 = 4 := by kernel_rfl
@[go_sem] theorem tkind_92 : tkind Try.prog 92 = (some 0 : Option Nat) := by kernel_rfl
@[go_sem] theorem teq_92 : teq Try.prog 92 = (none : Option (List Nat)) := by kernel_rfl
@[go_sem] theorem tzA_92 : tzA Try.prog 92 = (some (AV.v (Value.int IntKind.u32 (0))) : Option AV) := by kernel_rfl
@[go_sem] theorem tund_93 : tund Try.prog 93 = true := by kernel_rfl
@[go_sem] theorem tsz_93 : tsz Try.prog 93 = 1 := by kernel_rfl
@[go_sem] theorem tel_93 : tel Try.prog 93 = (none : Option TypeId) := by kernel_rfl
@[go_sem] theorem tarr_93 : tarr Try.prog 93 = (none : Option (Nat × TypeId)) := by kernel_rfl
@[go_sem] theorem tfld_93 : tfld Try.prog 93 = (none : Option (List (Nat × TypeId))) := by kernel_rfl
@[go_sem] theorem tint_93 : tint Try.prog 93 = (some IntKind.u8 : Option IntKind) := by kernel_rfl
@[go_sem] theorem tstr_93 : tstr Try.prog 93 = false := by kernel_rfl
@[go_sem] theorem tagg_93 : tagg Try.prog 93 = (some false : Option Bool) := by kernel_rfl
@[go_sem] theorem tby_93 : tby Try.prog 93 = 1 := by kernel_rfl
@[go_sem] theorem tkind_93 : tkind Try.prog 93 = (some 0 : Option Nat) := by kernel_rfl
@[go_sem] theorem teq_93 : teq Try.prog 93 = (none : Option (List Nat)) := by kernel_rfl
@[go_sem] theorem tzA_93 : tzA Try.prog 93 = (some (AV.v (Value.int IntKind.u8 (0))) : Option AV) := by kernel_rfl
@[go_sem] theorem tund_94 : tund Try.prog 94 = true := by kernel_rfl
@[go_sem] theorem tsz_94 : tsz Try.prog 94 = 1 := by kernel_rfl
@[go_sem] theorem tel_94 : tel Try.prog 94 = (none : Option TypeId) := by kernel_rfl
@[go_sem] theorem tarr_94 : tarr Try.prog 94 = (none : Option (Nat × TypeId)) := by kernel_rfl
@[go_sem] theorem tfld_94 : tfld Try.prog 94 = (none : Option (List (Nat × TypeId))) := by kernel_rfl
@[go_sem] theorem tint_94 : tint Try.prog 94 = (some IntKind.u8 : Option IntKind) := by kernel_rfl
@[go_sem] theorem tstr_94 : tstr Try.prog 94 = false := by kernel_rfl
@[go_sem] theorem tagg_94 : tagg Try.prog 94 = (some false : Option Bool) := by kernel_rfl
@[go_sem] theorem tby_94 : tby Try.prog 94 = 1 := by kernel_rfl
@[go_sem] theorem tkind_94 : tkind Try.prog 94 = (some 0 : Option Nat) := by kernel_rfl
@[go_sem] theorem teq_94 : teq Try.prog 94 = (none : Option (List Nat)) := by kernel_rfl
@[go_sem] theorem tzA_94 : tzA Try.prog 94 = (some (AV.v (Value.int IntKind.u8 (0))) : Option AV) := by kernel_rfl
@[go_sem] theorem tund_95 : tund Try.prog 95 = true := by kernel_rfl
@[go_sem] theorem tsz_95 : tsz Try.prog 95 = 1 := by kernel_rfl
@[go_sem] theorem tel_95 : tel Try.prog 95 = (none : Option TypeId) := by kernel_rfl
@[go_sem] theorem tarr_95 : tarr Try.prog 95 = (none : Option (Nat × TypeId)) := by kernel_rfl
@[go_sem] theorem tfld_95 : tfld Try.prog 95 = (none : Option (List (Nat × TypeId))) := by kernel_rfl
@[go_sem] theorem tint_95 : tint Try.prog 95 = (none : Option IntKind) := by kernel_rfl
@[go_sem] theorem tstr_95 : tstr Try.prog 95 = false := by kernel_rfl
@[go_sem] theorem tagg_95 : tagg Try.prog 95 = (some false : Option Bool) := by kernel_rfl
@[go_sem] theorem tby_95 : tby Try.prog 95 = 8 := by kernel_rfl
@[go_sem] theorem tkind_95 : tkind Try.prog 95 = (none : Option Nat) := by kernel_rfl
@[go_sem] theorem teq_95 : teq Try.prog 95 = (none : Option (List Nat)) := by kernel_rfl
@[go_sem] theorem tzA_95 : tzA Try.prog 95 = (some (AV.v Value.nilFunc) : Option AV) := by kernel_rfl
@[go_sem] theorem tund_96 : tund Try.prog 96 = true := by kernel_rfl
@[go_sem] theorem tsz_96 : tsz Try.prog 96 = 1 := by kernel_rfl
@[go_sem] theorem tel_96 : tel Try.prog 96 = (none : Option TypeId) := by kernel_rfl
@[go_sem] theorem tarr_96 : tarr Try.prog 96 = (none : Option (Nat × TypeId)) := by kernel_rfl
@[go_sem] theorem tfld_96 : tfld Try.prog 96 = (none : Option (List (Nat × TypeId))) := by kernel_rfl
@[go_sem] theorem tint_96 : tint Try.prog 96 = (none : Option IntKind) := by kernel_rfl
@[go_sem] theorem tstr_96 : tstr Try.prog 96 = false := by kernel_rfl
@[go_sem] theorem tagg_96 : tagg Try.prog 96 = (some false : Option Bool) := by kernel_rfl
@[go_sem] theorem tby_96 : tby Try.prog 96 = 8 := by kernel_rfl
@[go_sem] theorem tkind_96 : tkind Try.prog 96 = (none : Option Nat) := by kernel_rfl
@[go_sem] theorem teq_96 : teq Try.prog 96 = (none : Option (List Nat)) := by kernel_rfl
@[go_sem] theorem tzA_96 : tzA Try.prog 96 = (some (AV.v (Value.pointer none)) : Option AV) := by kernel_rfl
@[go_sem] theorem tund_97 : tund Try.prog 97 = true := by kernel_rfl
@[go_sem] theorem tsz_97 : tsz Try.prog 97 = 1 := by kernel_rfl
@[go_sem] theorem tel_97 : tel Try.prog 97 = (none : Option TypeId) := by kernel_rfl
@[go_sem] theorem tarr_97 : tarr Try.prog 97 = (none : Option (Nat × TypeId)) := by kernel_rfl
@[go_sem] theorem tfld_97 : tfld Try.prog 97 = (none : Option (List (Nat × TypeId))) := by kernel_rfl
@[go_sem] theorem tint_97 : tint Try.prog 97 = (some IntKind.i32 : Option IntKind) := by kernel_rfl
@[go_sem] theorem tstr_97 : tstr Try.prog 97 = false := by kernel_rfl
@[go_sem] theorem tagg_97 : tagg Try.prog 97 = (some false : Option Bool) := by kernel_rfl
@[go_sem] theorem tby_97 : tby Try.prog 97 = 4 := by kernel_rfl
@[go_sem] theorem tkind_97 : tkind Try.prog 97 = (some 0 : Option Nat) := by kernel_rfl
@[go_sem] theorem teq_97 : teq Try.prog 97 = (none : Option (List Nat)) := by kernel_rfl
@[go_sem] theorem tzA_97 : tzA Try.prog 97 = (some (AV.v (Value.int IntKind.i32 (0))) : Option AV) := by kernel_rfl
@[go_sem] theorem tund_98 : tund Try.prog 98 = true := by kernel_rfl
@[go_sem] theorem tsz_98 : tsz Try.prog 98 = 1 := by kernel_rfl
@[go_sem] theorem tel_98 : tel Try.prog 98 = (none : Option TypeId) := by kernel_rfl
@[go_sem] theorem tarr_98 : tarr Try.prog 98 = (none : Option (Nat × TypeId)) := by kernel_rfl
@[go_sem] theorem tfld_98 : tfld Try.prog 98 = (none : Option (List (Nat × TypeId))) := by kernel_rfl
@[go_sem] theorem tint_98 : tint Try.prog 98 = (some IntKind.i32 : Option IntKind) := by kernel_rfl
@[go_sem] theorem tstr_98 : tstr Try.prog 98 = false := by kernel_rfl
@[go_sem] theorem tagg_98 : tagg Try.prog 98 = (some false : Option Bool) := by kernel_rfl
@[go_sem] theorem tby_98 : tby Try.prog 98 = 4 := by kernel_rfl
@[go_sem] theorem tkind_98 : tkind Try.prog 98 = (some 0 : Option Nat) := by kernel_rfl
@[go_sem] theorem teq_98 : teq Try.prog 98 = (none : Option (List Nat)) := by kernel_rfl
@[go_sem] theorem tzA_98 : tzA Try.prog 98 = (some (AV.v (Value.int IntKind.i32 (0))) : Option AV) := by kernel_rfl
@[go_sem] theorem tund_99 : tund Try.prog 99 = true := by kernel_rfl
@[go_sem] theorem tsz_99 : tsz Try.prog 99 = 11 := by kernel_rfl
@[go_sem] theorem tel_99 : tel Try.prog 99 = (none : Option TypeId) := by kernel_rfl
@[go_sem] theorem tarr_99 : tarr Try.prog 99 = (none : Option (Nat × TypeId)) := by kernel_rfl
@[go_sem] theorem tfld_99 : tfld Try.prog 99 = (some [(0, 12), (1, 12), (2, 92), (3, 93), (4, 5), (5, 5), (6, 94), (7, 95), (8, 96), (9, 97), (10, 98)] : Option (List (Nat × TypeId))) := by kernel_rfl
@[go_sem] theorem tint_99 : tint Try.prog 99 = (none : Option IntKind) := by kernel_rfl
@[go_sem] theorem tstr_99 : tstr Try.prog 99 = false := by kernel_rfl
@[go_sem] theorem tagg_99 : tagg Try.prog 99 = (some true : Option Bool) := by kernel_rfl
@[go_sem] theorem tby_99 : tby Try.prog 99 = 48 := by kernel_rfl
@[go_sem] theorem tkind_99 : tkind Try.prog 99 = (none : Option Nat) := by kernel_rfl
@[go_sem] theorem teq_99 : teq Try.prog 99 = (none : Option (List Nat)) := by kernel_rfl
@[go_sem] theorem tzA_99 : tzA Try.prog 99 = (some (AV.agg [AV.v (Value.int IntKind.u64 (0)), AV.v (Value.int IntKind.u64 (0)), AV.v (Value.int IntKind.u32 (0)), AV.v (Value.int IntKind.u8 (0)), AV.v (Value.int IntKind.u8 (0)), AV.v (Value.int IntKind.u8 (0)), AV.v (Value.int IntKind.u8 (0)), AV.v Value.nilFunc, AV.v (Value.pointer none), AV.v (Value.int IntKind.i32 (0)), AV.v (Value.int IntKind.i32 (0))]) : Option AV) := by kernel_rfl
@[go_sem] theorem tund_100 : tund Try.prog 100 = true := by kernel_rfl
@[go_sem] theorem tsz_100 : tsz Try.prog 100 = 11 := by kernel_rfl
@[go_sem] theorem tel_100 : tel Try.prog 100 = (none : Option TypeId) := by kernel_rfl
@[go_sem] theorem tarr_100 : tarr Try.prog 100 = (none : Option (Nat × TypeId)) := by kernel_rfl
@[go_sem] theorem tfld_100 : tfld Try.prog 100 = (some [(0, 12), (1, 12), (2, 92), (3, 93), (4, 5), (5, 5), (6, 94), (7, 95), (8, 96), (9, 97), (10, 98)] : Option (List (Nat × TypeId))) := by kernel_rfl
@[go_sem] theorem tint_100 : tint Try.prog 100 = (none : Option IntKind) := by kernel_rfl
@[go_sem] theorem tstr_100 : tstr Try.prog 100 = false := by kernel_rfl
@[go_sem] theorem tagg_100 : tagg Try.prog 100 = (some true : Option Bool) := by kernel_rfl
@[go_sem] theorem tby_100 : tby Try.prog 100 = 48 := by kernel_rfl
@[go_sem] theorem tkind_100 : tkind Try.prog 100 = (none : Option Nat) := by kernel_rfl
@[go_sem] theorem teq_100 : teq Try.prog 100 = (none : Option (List Nat)) := by kernel_rfl
@[go_sem] theorem tzA_100 : tzA Try.prog 100 = (some (AV.agg [AV.v (Value.int IntKind.u64 (0)), AV.v (Value.int IntKind.u64 (0)), AV.v (Value.int IntKind.u32 (0)), AV.v (Value.int IntKind.u8 (0)), AV.v (Value.int IntKind.u8 (0)), AV.v (Value.int IntKind.u8 (0)), AV.v (Value.int IntKind.u8 (0)), AV.v Value.nilFunc, AV.v (Value.pointer none), AV.v (Value.int IntKind.i32 (0)), AV.v (Value.int IntKind.i32 (0))]) : Option AV) := by kernel_rfl
@[go_sem] theorem tund_101 : tund Try.prog 101 = true := by kernel_rfl
@[go_sem] theorem tsz_101 : tsz Try.prog 101 = 1 := by kernel_rfl
@[go_sem] theorem tel_101 : tel Try.prog 101 = (none : Option TypeId) := by kernel_rfl
@[go_sem] theorem tarr_101 : tarr Try.prog 101 = (none : Option (Nat × TypeId)) := by kernel_rfl
@[go_sem] theorem tfld_101 : tfld Try.prog 101 = (none : Option (List (Nat × TypeId))) := by kernel_rfl
@[go_sem] theorem tint_101 : tint Try.prog 101 = (none : Option IntKind) := by kernel_rfl
@[go_sem] theorem tstr_101 : tstr Try.prog 101 = false := by kernel_rfl
@[go_sem] theorem tagg_101 : tagg Try.prog 101 = (some false : Option Bool) := by kernel_rfl
@[go_sem] theorem tby_101 : tby Try.prog 101 = 8 := by kernel_rfl
@[go_sem] theorem tkind_101 : tkind Try.prog 101 = (none : Option Nat) := by kernel_rfl
@[go_sem] theorem teq_101 : teq Try.prog 101 = (none : Option (List Nat)) := by kernel_rfl
@[go_sem] theorem tzA_101 : tzA Try.prog 101 = (some (AV.v (Value.pointer none)) : Option AV) := by kernel_rfl
end Go.Proofs.Ytjbgckjcbmmobaa

/- The contracts of chapter 39: what debts are. -/
set_option maxRecDepth 100000
set_option linter.unusedSimpArgs false
namespace Go.Proofs.Ytjbgckjcbmmobaa
open Go.Vai Go Go.Proofs

theorem mo : Try.prog.follows .mixedOrders = true := by kernel_rfl

theorem pick_ev (c n : Int) (hc : R64 c) (hn : 0 < n) : Ev Try.prog 34 [I c, I n] (I (pickF c n)) := by
  obtain ⟨h1, h2⟩ := hc
  refine ev_of Try.func34 rfl (by kernel_rfl) mo (Nat.le_of_ble_eq_true rfl) ?_
  simp -implicitDefEqProofs (disch := omega) only [go_sem, ↓reduceIte, Nat.reduceEqDiff, Nat.reduceMul, Nat.reduceAdd, Nat.reduceDiv, Nat.reduceBEq, Nat.reduceLeDiff, Int.reduceToNat, Int.reduceNe, Int.reduceEq, Int.reduceLT, Int.reduceLE, Int.reduceBEq, Int.reduceBNe, ne_eq, not_true_eq_false, not_false_eq_true, decide_true, decide_false, List.length_map, Try.ntmps34]
  refine branch_mk (fun h => ?_) (fun h => ?_) <;> simp -implicitDefEqProofs (disch := omega) only [go_sem, ↓reduceIte, Nat.reduceEqDiff, Nat.reduceMul, Nat.reduceAdd, Nat.reduceDiv, Nat.reduceBEq, Nat.reduceLeDiff, Int.reduceToNat, Int.reduceNe, Int.reduceEq, Int.reduceLT, Int.reduceLE, Int.reduceBEq, Int.reduceBNe, ne_eq, not_true_eq_false, not_false_eq_true, decide_true, decide_false, List.length_map, Try.results34]
  · rw [show (0 - (c+1)) = -(c+1) from by omega]; simp [pickF, h]
  · simp [pickF, h]
theorem pickR_ev (c n : Int) (hc : R64 c) (hn : 0 < n) : Ev Try.prog 36 [I c, I n] (I (pickF c n)) := by
  obtain ⟨h1, h2⟩ := hc
  refine ev_of Try.func36 rfl (by kernel_rfl) mo (Nat.le_of_ble_eq_true rfl) ?_
  simp -implicitDefEqProofs (disch := omega) only [go_sem, ↓reduceIte, Nat.reduceEqDiff, Nat.reduceMul, Nat.reduceAdd, Nat.reduceDiv, Nat.reduceBEq, Nat.reduceLeDiff, Int.reduceToNat, Int.reduceNe, Int.reduceEq, Int.reduceLT, Int.reduceLE, Int.reduceBEq, Int.reduceBNe, ne_eq, not_true_eq_false, not_false_eq_true, decide_true, decide_false, List.length_map, Try.ntmps36]
  refine branch_mk (fun h => ?_) (fun h => ?_) <;> simp -implicitDefEqProofs (disch := omega) only [go_sem, ↓reduceIte, Nat.reduceEqDiff, Nat.reduceMul, Nat.reduceAdd, Nat.reduceDiv, Nat.reduceBEq, Nat.reduceLeDiff, Int.reduceToNat, Int.reduceNe, Int.reduceEq, Int.reduceLT, Int.reduceLE, Int.reduceBEq, Int.reduceBNe, ne_eq, not_true_eq_false, not_false_eq_true, decide_true, decide_false, List.length_map, Try.results36]
  · rw [show (0 - (c+1)) = -(c+1) from by omega]; simp [pickF, h]
  · simp [pickF, h]
theorem in_ev (n lo hi : Int) : Ev Try.prog 61 [I n, I lo, I hi] (B (inF n lo hi)) := by
  refine ev_of Try.func61 rfl (by kernel_rfl) mo (Nat.le_of_ble_eq_true rfl) ?_
  simp -implicitDefEqProofs (disch := omega) only [go_sem, ↓reduceIte, Nat.reduceEqDiff, Nat.reduceMul, Nat.reduceAdd, Nat.reduceDiv, Nat.reduceBEq, Nat.reduceLeDiff, Int.reduceToNat, Int.reduceNe, Int.reduceEq, Int.reduceLT, Int.reduceLE, Int.reduceBEq, Int.reduceBNe, ne_eq, not_true_eq_false, not_false_eq_true, decide_true, decide_false, List.length_map, Try.ntmps61]
  refine branch_mk (fun h => ?_) (fun h => ?_) <;> simp -implicitDefEqProofs (disch := omega) only [go_sem, ↓reduceIte, Nat.reduceEqDiff, Nat.reduceMul, Nat.reduceAdd, Nat.reduceDiv, Nat.reduceBEq, Nat.reduceLeDiff, Int.reduceToNat, Int.reduceNe, Int.reduceEq, Int.reduceLT, Int.reduceLE, Int.reduceBEq, Int.reduceBNe, ne_eq, not_true_eq_false, not_false_eq_true, decide_true, decide_false, List.length_map, Try.results61]
  · simp [inF, h]
  · simp [inF, h]
theorem isIn_ev (n lo hi : Int) : Ev Try.prog 59 [I n, I lo, I hi] (B (inF n lo hi)) := by
  refine ev_of Try.func59 rfl (by kernel_rfl) mo (Nat.le_of_ble_eq_true rfl) ?_
  simp -implicitDefEqProofs (disch := omega) only [go_sem, ↓reduceIte, Nat.reduceEqDiff, Nat.reduceMul, Nat.reduceAdd, Nat.reduceDiv, Nat.reduceBEq, Nat.reduceLeDiff, Int.reduceToNat, Int.reduceNe, Int.reduceEq, Int.reduceLT, Int.reduceLE, Int.reduceBEq, Int.reduceBNe, ne_eq, not_true_eq_false, not_false_eq_true, decide_true, decide_false, List.length_map, Try.ntmps59]
  refine branch_mk (fun h => ?_) (fun h => ?_) <;> simp -implicitDefEqProofs (disch := omega) only [go_sem, ↓reduceIte, Nat.reduceEqDiff, Nat.reduceMul, Nat.reduceAdd, Nat.reduceDiv, Nat.reduceBEq, Nat.reduceLeDiff, Int.reduceToNat, Int.reduceNe, Int.reduceEq, Int.reduceLT, Int.reduceLE, Int.reduceBEq, Int.reduceBNe, ne_eq, not_true_eq_false, not_false_eq_true, decide_true, decide_false, List.length_map, Try.results59]
  · simp [inF, h]
  · simp [inF, h]

theorem areDebts1_ev (limit : Int) (d : Deb) : Ev Try.prog 58 [DP d, .pt (I limit) 0] (B (decide (badF limit d))) := by
  refine ev_of Try.func58 rfl (by kernel_rfl) mo (Nat.le_of_ble_eq_true rfl) ?_
  simp -implicitDefEqProofs (disch := omega) only [go_sem, ↓reduceIte, Nat.reduceEqDiff, Nat.reduceMul, Nat.reduceAdd, Nat.reduceDiv, Nat.reduceBEq, Nat.reduceLeDiff, Int.reduceToNat, Int.reduceNe, Int.reduceEq, Int.reduceLT, Int.reduceLE, Int.reduceBEq, Int.reduceBNe, ne_eq, not_true_eq_false, not_false_eq_true, decide_true, decide_false, List.length_map, Try.ntmps58]
  refine callC_at (isIn_ev _ _ _) ?_
  simp -implicitDefEqProofs (disch := omega) only [go_sem, ↓reduceIte, Nat.reduceEqDiff, Nat.reduceMul, Nat.reduceAdd, Nat.reduceDiv, Nat.reduceBEq, Nat.reduceLeDiff, Int.reduceToNat, Int.reduceNe, Int.reduceEq, Int.reduceLT, Int.reduceLE, Int.reduceBEq, Int.reduceBNe, ne_eq, not_true_eq_false, not_false_eq_true, decide_true, decide_false, List.length_map]
  refine branch_mk (fun hb => ?_) (fun hb => ?_)
  · have hb1 := (inF_not _ _ _).1 hb
    simp -implicitDefEqProofs (disch := omega) only [go_sem, ↓reduceIte, Nat.reduceEqDiff, Nat.reduceMul, Nat.reduceAdd, Nat.reduceDiv, Nat.reduceBEq, Nat.reduceLeDiff, Int.reduceToNat, Int.reduceNe, Int.reduceEq, Int.reduceLT, Int.reduceLE, Int.reduceBEq, Int.reduceBNe, ne_eq, not_true_eq_false, not_false_eq_true, decide_true, decide_false, List.length_map, Try.results58]
    rw [decide_eq_true (p := badF limit d) (.inl hb1)]
  · have hb1 := (inF_iff _ _ _).1 (by simpa using hb)
    simp -implicitDefEqProofs (disch := omega) only [go_sem, ↓reduceIte, Nat.reduceEqDiff, Nat.reduceMul, Nat.reduceAdd, Nat.reduceDiv, Nat.reduceBEq, Nat.reduceLeDiff, Int.reduceToNat, Int.reduceNe, Int.reduceEq, Int.reduceLT, Int.reduceLE, Int.reduceBEq, Int.reduceBNe, ne_eq, not_true_eq_false, not_false_eq_true, decide_true, decide_false, List.length_map]
    refine callC_at (isIn_ev _ _ _) ?_
    simp -implicitDefEqProofs (disch := omega) only [go_sem, ↓reduceIte, Nat.reduceEqDiff, Nat.reduceMul, Nat.reduceAdd, Nat.reduceDiv, Nat.reduceBEq, Nat.reduceLeDiff, Int.reduceToNat, Int.reduceNe, Int.reduceEq, Int.reduceLT, Int.reduceLE, Int.reduceBEq, Int.reduceBNe, ne_eq, not_true_eq_false, not_false_eq_true, decide_true, decide_false, List.length_map]
    refine branch_mk (fun hb => ?_) (fun hb => ?_)
    · have hb2 := (inF_not _ _ _).1 hb
      simp -implicitDefEqProofs (disch := omega) only [go_sem, ↓reduceIte, Nat.reduceEqDiff, Nat.reduceMul, Nat.reduceAdd, Nat.reduceDiv, Nat.reduceBEq, Nat.reduceLeDiff, Int.reduceToNat, Int.reduceNe, Int.reduceEq, Int.reduceLT, Int.reduceLE, Int.reduceBEq, Int.reduceBNe, ne_eq, not_true_eq_false, not_false_eq_true, decide_true, decide_false, List.length_map, Try.results58]
      rw [decide_eq_true (p := badF limit d) (.inr (.inl hb2))]
    · have hb2 := (inF_iff _ _ _).1 (by simpa using hb)
      simp -implicitDefEqProofs (disch := omega) only [go_sem, ↓reduceIte, Nat.reduceEqDiff, Nat.reduceMul, Nat.reduceAdd, Nat.reduceDiv, Nat.reduceBEq, Nat.reduceLeDiff, Int.reduceToNat, Int.reduceNe, Int.reduceEq, Int.reduceLT, Int.reduceLE, Int.reduceBEq, Int.reduceBNe, ne_eq, not_true_eq_false, not_false_eq_true, decide_true, decide_false, List.length_map]
      refine branch_mk (fun hb3 => ?_) (fun hb3 => ?_)
      · simp -implicitDefEqProofs (disch := omega) only [go_sem, ↓reduceIte, Nat.reduceEqDiff, Nat.reduceMul, Nat.reduceAdd, Nat.reduceDiv, Nat.reduceBEq, Nat.reduceLeDiff, Int.reduceToNat, Int.reduceNe, Int.reduceEq, Int.reduceLT, Int.reduceLE, Int.reduceBEq, Int.reduceBNe, ne_eq, not_true_eq_false, not_false_eq_true, decide_true, decide_false, List.length_map, Try.results58]
        rw [decide_eq_true (p := badF limit d) (.inr (.inr (.inl hb3)))]
      · simp -implicitDefEqProofs (disch := omega) only [go_sem, ↓reduceIte, Nat.reduceEqDiff, Nat.reduceMul, Nat.reduceAdd, Nat.reduceDiv, Nat.reduceBEq, Nat.reduceLeDiff, Int.reduceToNat, Int.reduceNe, Int.reduceEq, Int.reduceLT, Int.reduceLE, Int.reduceBEq, Int.reduceBNe, ne_eq, not_true_eq_false, not_false_eq_true, decide_true, decide_false, List.length_map]
        refine callC_at (isIn_ev _ _ _) ?_
        simp -implicitDefEqProofs (disch := omega) only [go_sem, ↓reduceIte, Nat.reduceEqDiff, Nat.reduceMul, Nat.reduceAdd, Nat.reduceDiv, Nat.reduceBEq, Nat.reduceLeDiff, Int.reduceToNat, Int.reduceNe, Int.reduceEq, Int.reduceLT, Int.reduceLE, Int.reduceBEq, Int.reduceBNe, ne_eq, not_true_eq_false, not_false_eq_true, decide_true, decide_false, List.length_map, Try.results58]
        have e : badF limit d ↔ inF d.2.2 1 limit = false := by
          rw [inF_not]; unfold badF; omega
        simp only [e]
        cases inF d.2.2 1 limit <;> rfl
end Go.Proofs.Ytjbgckjcbmmobaa

/- The contracts of chapter 39: what debts are (2). -/
set_option maxRecDepth 100000
set_option linter.unusedSimpArgs false
namespace Go.Proofs.Ytjbgckjcbmmobaa
open Go.Vai Go Go.Proofs

theorem index_ev (l : List Deb) (limit : Int) (hl : l.length ≤ 1000000) : Ev Try.prog 65 [DL l, .clo 58 [.pt (I limit) 0]] (I (findF limit l 0 l.length)) := by
  refine ev_of Try.func65 rfl (by kernel_rfl) mo (Nat.le_of_ble_eq_true rfl) ?_
  simp -implicitDefEqProofs (disch := omega) only [go_sem, ↓reduceIte, Nat.reduceEqDiff, Nat.reduceMul, Nat.reduceAdd, Nat.reduceDiv, Nat.reduceBEq, Nat.reduceLeDiff, Int.reduceToNat, Int.reduceNe, Int.reduceEq, Int.reduceLT, Int.reduceLE, Int.reduceBEq, Int.reduceBNe, ne_eq, not_true_eq_false, not_false_eq_true, decide_true, decide_false, List.length_map, Try.ntmps65]
  refine loopC_mk (fun n E σ => ∃ v : Nat, v + n = l.length ∧ E 0 = DL l ∧ E 1 = .clo 58 [.pt (I limit) 0] ∧ E 7 = I l.length ∧ E 8 = I v ∧ findF limit l 0 l.length = findF limit l v n) l.length ⟨0, by omega, ?_⟩ ?_
  · simp -implicitDefEqProofs (disch := omega) only [go_sem, ↓reduceIte, Nat.reduceEqDiff, Nat.reduceMul, Nat.reduceAdd, Nat.reduceDiv, Nat.reduceBEq, Nat.reduceLeDiff, Int.reduceToNat, Int.reduceNe, Int.reduceEq, Int.reduceLT, Int.reduceLE, Int.reduceBEq, Int.reduceBNe, ne_eq, not_true_eq_false, not_false_eq_true, decide_true, decide_false, List.length_map]
    simp
  · rintro n E σ ⟨v, hv, h0, h1, h7, h8, hall⟩
    simp -implicitDefEqProofs (disch := omega) only [go_sem, ↓reduceIte, Nat.reduceEqDiff, Nat.reduceMul, Nat.reduceAdd, Nat.reduceDiv, Nat.reduceBEq, Nat.reduceLeDiff, Int.reduceToNat, Int.reduceNe, Int.reduceEq, Int.reduceLT, Int.reduceLE, Int.reduceBEq, Int.reduceBNe, ne_eq, not_true_eq_false, not_false_eq_true, decide_true, decide_false, List.length_map, h0, h1, h7, h8]
    refine branch_mk (fun hc => ?_) (fun hc => ?_)
    · simp -implicitDefEqProofs (disch := omega) only [go_sem, ↓reduceIte, Nat.reduceEqDiff, Nat.reduceMul, Nat.reduceAdd, Nat.reduceDiv, Nat.reduceBEq, Nat.reduceLeDiff, Int.reduceToNat, Int.reduceNe, Int.reduceEq, Int.reduceLT, Int.reduceLE, Int.reduceBEq, Int.reduceBNe, ne_eq, not_true_eq_false, not_false_eq_true, decide_true, decide_false, List.length_map, h0, h1, h7, h8]
      refine callC_at (areDebts1_ev _ _) ?_
      simp -implicitDefEqProofs (disch := omega) only [go_sem, ↓reduceIte, Nat.reduceEqDiff, Nat.reduceMul, Nat.reduceAdd, Nat.reduceDiv, Nat.reduceBEq, Nat.reduceLeDiff, Int.reduceToNat, Int.reduceNe, Int.reduceEq, Int.reduceLT, Int.reduceLE, Int.reduceBEq, Int.reduceBNe, ne_eq, not_true_eq_false, not_false_eq_true, decide_true, decide_false, List.length_map, h0, h1, h7, h8]
      obtain ⟨m, rfl⟩ : ∃ m, n = m + 1 := ⟨n - 1, by omega⟩
      refine branch_mk (fun hb => ?_) (fun hb => ?_)
      · simp -implicitDefEqProofs (disch := omega) only [go_sem, ↓reduceIte, Nat.reduceEqDiff, Nat.reduceMul, Nat.reduceAdd, Nat.reduceDiv, Nat.reduceBEq, Nat.reduceLeDiff, Int.reduceToNat, Int.reduceNe, Int.reduceEq, Int.reduceLT, Int.reduceLE, Int.reduceBEq, Int.reduceBNe, ne_eq, not_true_eq_false, not_false_eq_true, decide_true, decide_false, List.length_map, Try.results65]
        rw [hall]; simp [findF, hb]
      · simp -implicitDefEqProofs (disch := omega) only [go_sem, ↓reduceIte, Nat.reduceEqDiff, Nat.reduceMul, Nat.reduceAdd, Nat.reduceDiv, Nat.reduceBEq, Nat.reduceLeDiff, Int.reduceToNat, Int.reduceNe, Int.reduceEq, Int.reduceLT, Int.reduceLE, Int.reduceBEq, Int.reduceBNe, ne_eq, not_true_eq_false, not_false_eq_true, decide_true, decide_false, List.length_map, h0, h1, h7, h8]
        refine againQ_mk m (by omega) ⟨v + 1, by omega, ?_⟩
        simp -implicitDefEqProofs (disch := omega) only [go_sem, ↓reduceIte, Nat.reduceEqDiff, Nat.reduceMul, Nat.reduceAdd, Nat.reduceDiv, Nat.reduceBEq, Nat.reduceLeDiff, Int.reduceToNat, Int.reduceNe, Int.reduceEq, Int.reduceLT, Int.reduceLE, Int.reduceBEq, Int.reduceBNe, ne_eq, not_true_eq_false, not_false_eq_true, decide_true, decide_false, List.length_map, h0, h1, h7, h8]
        refine ⟨by simp, ?_⟩
        rw [hall]; simp [findF, hb]
    · simp -implicitDefEqProofs (disch := omega) only [go_sem, ↓reduceIte, Nat.reduceEqDiff, Nat.reduceMul, Nat.reduceAdd, Nat.reduceDiv, Nat.reduceBEq, Nat.reduceLeDiff, Int.reduceToNat, Int.reduceNe, Int.reduceEq, Int.reduceLT, Int.reduceLE, Int.reduceBEq, Int.reduceBNe, ne_eq, not_true_eq_false, not_false_eq_true, decide_true, decide_false, List.length_map, Try.results65]
      have : n = 0 := by omega
      subst this; rw [hall]; rfl
theorem contains_ev (l : List Deb) (limit : Int) (hl : l.length ≤ 1000000) : Ev Try.prog 60 [DL l, .clo 58 [.pt (I limit) 0]] (B (decide (0 ≤ findF limit l 0 l.length))) := by
  refine ev_of Try.func60 rfl (by kernel_rfl) mo (Nat.le_of_ble_eq_true rfl) ?_
  simp -implicitDefEqProofs (disch := omega) only [go_sem, ↓reduceIte, Nat.reduceEqDiff, Nat.reduceMul, Nat.reduceAdd, Nat.reduceDiv, Nat.reduceBEq, Nat.reduceLeDiff, Int.reduceToNat, Int.reduceNe, Int.reduceEq, Int.reduceLT, Int.reduceLE, Int.reduceBEq, Int.reduceBNe, ne_eq, not_true_eq_false, not_false_eq_true, decide_true, decide_false, List.length_map, Try.ntmps60]
  refine callC_at (index_ev l limit hl) ?_
  simp -implicitDefEqProofs (disch := omega) only [go_sem, ↓reduceIte, Nat.reduceEqDiff, Nat.reduceMul, Nat.reduceAdd, Nat.reduceDiv, Nat.reduceBEq, Nat.reduceLeDiff, Int.reduceToNat, Int.reduceNe, Int.reduceEq, Int.reduceLT, Int.reduceLE, Int.reduceBEq, Int.reduceBNe, ne_eq, not_true_eq_false, not_false_eq_true, decide_true, decide_false, List.length_map, Try.results60]
theorem areDebts_ev (l : List Deb) (limit : Int) (hl : l.length ≤ 9223372036854775807) : Ev Try.prog 45 [DL l, I limit] (B (debtsF l limit)) := by
  refine ev_of Try.func45 rfl (by kernel_rfl) mo (Nat.le_of_ble_eq_true rfl) ?_
  simp -implicitDefEqProofs (disch := omega) only [go_sem, ↓reduceIte, Nat.reduceEqDiff, Nat.reduceMul, Nat.reduceAdd, Nat.reduceDiv, Nat.reduceBEq, Nat.reduceLeDiff, Int.reduceToNat, Int.reduceNe, Int.reduceEq, Int.reduceLT, Int.reduceLE, Int.reduceBEq, Int.reduceBNe, ne_eq, not_true_eq_false, not_false_eq_true, decide_true, decide_false, List.length_map, Try.ntmps45]
  refine branch_mk (fun hb => ?_) (fun hb => ?_)
  · simp -implicitDefEqProofs (disch := omega) only [go_sem, ↓reduceIte, Nat.reduceEqDiff, Nat.reduceMul, Nat.reduceAdd, Nat.reduceDiv, Nat.reduceBEq, Nat.reduceLeDiff, Int.reduceToNat, Int.reduceNe, Int.reduceEq, Int.reduceLT, Int.reduceLE, Int.reduceBEq, Int.reduceBNe, ne_eq, not_true_eq_false, not_false_eq_true, decide_true, decide_false, List.length_map]
    refine callC_at (contains_ev l limit (by omega)) ?_
    simp -implicitDefEqProofs (disch := omega) only [go_sem, ↓reduceIte, Nat.reduceEqDiff, Nat.reduceMul, Nat.reduceAdd, Nat.reduceDiv, Nat.reduceBEq, Nat.reduceLeDiff, Int.reduceToNat, Int.reduceNe, Int.reduceEq, Int.reduceLT, Int.reduceLE, Int.reduceBEq, Int.reduceBNe, ne_eq, not_true_eq_false, not_false_eq_true, decide_true, decide_false, List.length_map, Try.results45]
    rw [debts_find l limit (by omega)]
  · simp -implicitDefEqProofs (disch := omega) only [go_sem, ↓reduceIte, Nat.reduceEqDiff, Nat.reduceMul, Nat.reduceAdd, Nat.reduceDiv, Nat.reduceBEq, Nat.reduceLeDiff, Int.reduceToNat, Int.reduceNe, Int.reduceEq, Int.reduceLT, Int.reduceLE, Int.reduceBEq, Int.reduceBNe, ne_eq, not_true_eq_false, not_false_eq_true, decide_true, decide_false, List.length_map, Try.results45]
    have : ¬ l.length ≤ 60 := by omega
    simp [debtsF, this]
theorem debts_ev (l : List Deb) (limit : Int) (hl : l.length ≤ 9223372036854775807) : Ev Try.prog 46 [DL l, I limit] (B (debtsF l limit)) := by
  refine ev_of Try.func46 rfl (by kernel_rfl) mo (Nat.le_of_ble_eq_true rfl) ?_
  simp -implicitDefEqProofs (disch := omega) only [go_sem, ↓reduceIte, Nat.reduceEqDiff, Nat.reduceMul, Nat.reduceAdd, Nat.reduceDiv, Nat.reduceBEq, Nat.reduceLeDiff, Int.reduceToNat, Int.reduceNe, Int.reduceEq, Int.reduceLT, Int.reduceLE, Int.reduceBEq, Int.reduceBNe, ne_eq, not_true_eq_false, not_false_eq_true, decide_true, decide_false, List.length_map, Try.ntmps46]
  refine loopC_mk (fun n E σ => ∃ v : Nat, v + n = l.length ∧ E 0 = DL l ∧ E 1 = I limit ∧ E 5 = I v ∧ ∀ i, i < v → ¬ badF limit (gd l i)) l.length ⟨0, by omega, ?_⟩ ?_
  · simp -implicitDefEqProofs (disch := omega) only [go_sem, ↓reduceIte, Nat.reduceEqDiff, Nat.reduceMul, Nat.reduceAdd, Nat.reduceDiv, Nat.reduceBEq, Nat.reduceLeDiff, Int.reduceToNat, Int.reduceNe, Int.reduceEq, Int.reduceLT, Int.reduceLE, Int.reduceBEq, Int.reduceBNe, ne_eq, not_true_eq_false, not_false_eq_true, decide_true, decide_false, List.length_map]
    simp
  · rintro n E σ ⟨v, hv, h0, h1, h5, hall⟩
    simp -implicitDefEqProofs (disch := omega) only [go_sem, ↓reduceIte, Nat.reduceEqDiff, Nat.reduceMul, Nat.reduceAdd, Nat.reduceDiv, Nat.reduceBEq, Nat.reduceLeDiff, Int.reduceToNat, Int.reduceNe, Int.reduceEq, Int.reduceLT, Int.reduceLE, Int.reduceBEq, Int.reduceBNe, ne_eq, not_true_eq_false, not_false_eq_true, decide_true, decide_false, List.length_map, h0, h1, h5]
    refine branch_mk (fun hc => ?_) (fun hc => ?_)
    · have hbad : badF limit (gd l v) → debtsF l limit = false := fun hb => by
        cases e : debtsF l limit with
        | false => rfl
        | true => exact absurd hb ((debtsF_iff l limit).1 e |>.2 v (by omega))
      simp -implicitDefEqProofs (disch := omega) only [go_sem, ↓reduceIte, Nat.reduceEqDiff, Nat.reduceMul, Nat.reduceAdd, Nat.reduceDiv, Nat.reduceBEq, Nat.reduceLeDiff, Int.reduceToNat, Int.reduceNe, Int.reduceEq, Int.reduceLT, Int.reduceLE, Int.reduceBEq, Int.reduceBNe, ne_eq, not_true_eq_false, not_false_eq_true, decide_true, decide_false, List.length_map, h0, h1, h5]
      refine callC_at (in_ev _ _ _) ?_
      simp -implicitDefEqProofs (disch := omega) only [go_sem, ↓reduceIte, Nat.reduceEqDiff, Nat.reduceMul, Nat.reduceAdd, Nat.reduceDiv, Nat.reduceBEq, Nat.reduceLeDiff, Int.reduceToNat, Int.reduceNe, Int.reduceEq, Int.reduceLT, Int.reduceLE, Int.reduceBEq, Int.reduceBNe, ne_eq, not_true_eq_false, not_false_eq_true, decide_true, decide_false, List.length_map, h0, h1, h5]
      refine branch_mk (fun hb => ?_) (fun hb => ?_)
      · have hb1 := (inF_not _ _ _).1 hb
        simp -implicitDefEqProofs (disch := omega) only [go_sem, ↓reduceIte, Nat.reduceEqDiff, Nat.reduceMul, Nat.reduceAdd, Nat.reduceDiv, Nat.reduceBEq, Nat.reduceLeDiff, Int.reduceToNat, Int.reduceNe, Int.reduceEq, Int.reduceLT, Int.reduceLE, Int.reduceBEq, Int.reduceBNe, ne_eq, not_true_eq_false, not_false_eq_true, decide_true, decide_false, List.length_map, h0, h1, h5, Try.results46]
        rw [hbad (.inl hb1)]
      · have hb1 := (inF_iff _ _ _).1 (by simpa using hb)
        simp -implicitDefEqProofs (disch := omega) only [go_sem, ↓reduceIte, Nat.reduceEqDiff, Nat.reduceMul, Nat.reduceAdd, Nat.reduceDiv, Nat.reduceBEq, Nat.reduceLeDiff, Int.reduceToNat, Int.reduceNe, Int.reduceEq, Int.reduceLT, Int.reduceLE, Int.reduceBEq, Int.reduceBNe, ne_eq, not_true_eq_false, not_false_eq_true, decide_true, decide_false, List.length_map, h0, h1, h5]
        refine callC_at (in_ev _ _ _) ?_
        simp -implicitDefEqProofs (disch := omega) only [go_sem, ↓reduceIte, Nat.reduceEqDiff, Nat.reduceMul, Nat.reduceAdd, Nat.reduceDiv, Nat.reduceBEq, Nat.reduceLeDiff, Int.reduceToNat, Int.reduceNe, Int.reduceEq, Int.reduceLT, Int.reduceLE, Int.reduceBEq, Int.reduceBNe, ne_eq, not_true_eq_false, not_false_eq_true, decide_true, decide_false, List.length_map, h0, h1, h5]
        refine branch_mk (fun hb => ?_) (fun hb => ?_)
        · have hb2 := (inF_not _ _ _).1 hb
          simp -implicitDefEqProofs (disch := omega) only [go_sem, ↓reduceIte, Nat.reduceEqDiff, Nat.reduceMul, Nat.reduceAdd, Nat.reduceDiv, Nat.reduceBEq, Nat.reduceLeDiff, Int.reduceToNat, Int.reduceNe, Int.reduceEq, Int.reduceLT, Int.reduceLE, Int.reduceBEq, Int.reduceBNe, ne_eq, not_true_eq_false, not_false_eq_true, decide_true, decide_false, List.length_map, h0, h1, h5, Try.results46]
          rw [hbad (.inr (.inl hb2))]
        · have hb2 := (inF_iff _ _ _).1 (by simpa using hb)
          simp -implicitDefEqProofs (disch := omega) only [go_sem, ↓reduceIte, Nat.reduceEqDiff, Nat.reduceMul, Nat.reduceAdd, Nat.reduceDiv, Nat.reduceBEq, Nat.reduceLeDiff, Int.reduceToNat, Int.reduceNe, Int.reduceEq, Int.reduceLT, Int.reduceLE, Int.reduceBEq, Int.reduceBNe, ne_eq, not_true_eq_false, not_false_eq_true, decide_true, decide_false, List.length_map, h0, h1, h5]
          refine branch_mk (fun hb3 => ?_) (fun hb3 => ?_)
          · simp -implicitDefEqProofs (disch := omega) only [go_sem, ↓reduceIte, Nat.reduceEqDiff, Nat.reduceMul, Nat.reduceAdd, Nat.reduceDiv, Nat.reduceBEq, Nat.reduceLeDiff, Int.reduceToNat, Int.reduceNe, Int.reduceEq, Int.reduceLT, Int.reduceLE, Int.reduceBEq, Int.reduceBNe, ne_eq, not_true_eq_false, not_false_eq_true, decide_true, decide_false, List.length_map, h0, h1, h5, Try.results46]
            rw [hbad (.inr (.inr (.inl hb3)))]
          · simp -implicitDefEqProofs (disch := omega) only [go_sem, ↓reduceIte, Nat.reduceEqDiff, Nat.reduceMul, Nat.reduceAdd, Nat.reduceDiv, Nat.reduceBEq, Nat.reduceLeDiff, Int.reduceToNat, Int.reduceNe, Int.reduceEq, Int.reduceLT, Int.reduceLE, Int.reduceBEq, Int.reduceBNe, ne_eq, not_true_eq_false, not_false_eq_true, decide_true, decide_false, List.length_map, h0, h1, h5]
            refine callC_at (in_ev _ _ _) ?_
            simp -implicitDefEqProofs (disch := omega) only [go_sem, ↓reduceIte, Nat.reduceEqDiff, Nat.reduceMul, Nat.reduceAdd, Nat.reduceDiv, Nat.reduceBEq, Nat.reduceLeDiff, Int.reduceToNat, Int.reduceNe, Int.reduceEq, Int.reduceLT, Int.reduceLE, Int.reduceBEq, Int.reduceBNe, ne_eq, not_true_eq_false, not_false_eq_true, decide_true, decide_false, List.length_map, h0, h1, h5]
            refine branch_mk (fun hb => ?_) (fun hb => ?_)
            · have hb4 := (inF_not _ _ _).1 hb
              simp -implicitDefEqProofs (disch := omega) only [go_sem, ↓reduceIte, Nat.reduceEqDiff, Nat.reduceMul, Nat.reduceAdd, Nat.reduceDiv, Nat.reduceBEq, Nat.reduceLeDiff, Int.reduceToNat, Int.reduceNe, Int.reduceEq, Int.reduceLT, Int.reduceLE, Int.reduceBEq, Int.reduceBNe, ne_eq, not_true_eq_false, not_false_eq_true, decide_true, decide_false, List.length_map, h0, h1, h5, Try.results46]
              rw [hbad (.inr (.inr (.inr hb4)))]
            · have hb4 := (inF_iff _ _ _).1 (by simpa using hb)
              simp -implicitDefEqProofs (disch := omega) only [go_sem, ↓reduceIte, Nat.reduceEqDiff, Nat.reduceMul, Nat.reduceAdd, Nat.reduceDiv, Nat.reduceBEq, Nat.reduceLeDiff, Int.reduceToNat, Int.reduceNe, Int.reduceEq, Int.reduceLT, Int.reduceLE, Int.reduceBEq, Int.reduceBNe, ne_eq, not_true_eq_false, not_false_eq_true, decide_true, decide_false, List.length_map, h0, h1, h5]
              refine againQ_mk (n - 1) (by omega) ⟨v + 1, by omega, ?_⟩
              simp -implicitDefEqProofs (disch := omega) only [go_sem, ↓reduceIte, Nat.reduceEqDiff, Nat.reduceMul, Nat.reduceAdd, Nat.reduceDiv, Nat.reduceBEq, Nat.reduceLeDiff, Int.reduceToNat, Int.reduceNe, Int.reduceEq, Int.reduceLT, Int.reduceLE, Int.reduceBEq, Int.reduceBNe, ne_eq, not_true_eq_false, not_false_eq_true, decide_true, decide_false, List.length_map, h0, h1, h5]
              refine ⟨by simp, fun i hi => ?_⟩
              by_cases e : i = v
              · subst e; unfold badF; omega
              · exact hall i (by omega)
    · simp -implicitDefEqProofs (disch := omega) only [go_sem, ↓reduceIte, Nat.reduceEqDiff, Nat.reduceMul, Nat.reduceAdd, Nat.reduceDiv, Nat.reduceBEq, Nat.reduceLeDiff, Int.reduceToNat, Int.reduceNe, Int.reduceEq, Int.reduceLT, Int.reduceLE, Int.reduceBEq, Int.reduceBNe, ne_eq, not_true_eq_false, not_false_eq_true, decide_true, decide_false, List.length_map, h0, h1, h5, Try.results46]
      have e := debtsF_iff l limit
      by_cases h : l.length ≤ 60
      · rw [e.2 ⟨h, fun i hi => hall i (by omega)⟩]; simp; omega
      · have : debtsF l limit = false := by simp [debtsF, h]
        rw [this]; simp; omega
end Go.Proofs.Ytjbgckjcbmmobaa

/- The contracts of chapter 39: balances. -/
set_option maxRecDepth 100000
set_option linter.unusedSimpArgs false
namespace Go.Proofs.Ytjbgckjcbmmobaa
open Go.Vai Go Go.Proofs

theorem balances_ev (l : List Deb) (limit : Int) (hl : limit ≤ 1000000000000) (h0 : 0 ≤ limit) (hd : debtsF l limit = true) : Ev Try.prog 37 [DL l] (.new 3 1 ((balF l).map I)) := by
  obtain ⟨g1, g2⟩ := (debtsF_iff l limit).1 hd
  refine ev_of Try.func37 rfl (by kernel_rfl) mo (Nat.le_of_ble_eq_true rfl) ?_
  simp -implicitDefEqProofs (disch := omega) only [go_sem, ↓reduceIte, Nat.reduceEqDiff, Nat.reduceMul, Nat.reduceAdd, Nat.reduceDiv, Nat.reduceBEq, Nat.reduceLeDiff, Int.reduceToNat, Int.reduceNe, Int.reduceEq, Int.reduceLT, Int.reduceLE, Int.reduceBEq, Int.reduceBNe, ne_eq, not_true_eq_false, not_false_eq_true, decide_true, decide_false, List.length_map, Try.ntmps37]
  refine loopC_mk (fun n E σ => ∃ v : Nat, v + n = l.length ∧ E 3 = .own 79691872 1 0 8 ∧ E 7 = DL l ∧ E 8 = I l.length ∧ E 9 = I v ∧ σ 79691872 = some ⟨3, 1, (balN l v).map I⟩) l.length ⟨0, by omega, ?_⟩ ?_
  · simp -implicitDefEqProofs (disch := omega) only [go_sem, ↓reduceIte, Nat.reduceEqDiff, Nat.reduceMul, Nat.reduceAdd, Nat.reduceDiv, Nat.reduceBEq, Nat.reduceLeDiff, Int.reduceToNat, Int.reduceNe, Int.reduceEq, Int.reduceLT, Int.reduceLE, Int.reduceBEq, Int.reduceBNe, ne_eq, not_true_eq_false, not_false_eq_true, decide_true, decide_false, List.length_map]
    simp [balN]
  · rintro n E σ ⟨v, hv, h3, h7, h8, h9, hs⟩
    simp -implicitDefEqProofs (disch := omega) only [go_sem, ↓reduceIte, Nat.reduceEqDiff, Nat.reduceMul, Nat.reduceAdd, Nat.reduceDiv, Nat.reduceBEq, Nat.reduceLeDiff, Int.reduceToNat, Int.reduceNe, Int.reduceEq, Int.reduceLT, Int.reduceLE, Int.reduceBEq, Int.reduceBNe, ne_eq, not_true_eq_false, not_false_eq_true, decide_true, decide_false, List.length_map, h3, h7, h8, h9, hs]
    have hlen := balN_length l v
    refine branch_mk (fun hc => ?_) (fun hc => ?_)
    · have hb := g2 v (by omega)
      unfold badF at hb
      obtain ⟨w1, w2, w3, w4, _⟩ := balN_step l g2 h0 hl g1 v (by omega)
      have hlen2 := addF_length (balN l v) (gd l v).1 (-(gd l v).2.2)
      simp -implicitDefEqProofs (disch := omega) only [go_sem, ↓reduceIte, Nat.reduceEqDiff, Nat.reduceMul, Nat.reduceAdd, Nat.reduceDiv, Nat.reduceBEq, Nat.reduceLeDiff, Int.reduceToNat, Int.reduceNe, Int.reduceEq, Int.reduceLT, Int.reduceLE, Int.reduceBEq, Int.reduceBNe, ne_eq, not_true_eq_false, not_false_eq_true, decide_true, decide_false, List.length_map, h3, h7, h8, h9, hs, w1, w2, w3, w4]
      refine againQ_mk (n - 1) (by omega) ⟨v + 1, by omega, ?_⟩
      simp -implicitDefEqProofs (disch := omega) only [go_sem, ↓reduceIte, Nat.reduceEqDiff, Nat.reduceMul, Nat.reduceAdd, Nat.reduceDiv, Nat.reduceBEq, Nat.reduceLeDiff, Int.reduceToNat, Int.reduceNe, Int.reduceEq, Int.reduceLT, Int.reduceLE, Int.reduceBEq, Int.reduceBNe, ne_eq, not_true_eq_false, not_false_eq_true, decide_true, decide_false, List.length_map, h3, h7, h8, h9, hs]
      simp
    · have e : v = l.length := by omega
      subst e
      have e8 : (balN l l.length).take 8 = balF l := List.take_of_length_le (by omega)
      simp -implicitDefEqProofs (disch := omega) only [go_sem, ↓reduceIte, Nat.reduceEqDiff, Nat.reduceMul, Nat.reduceAdd, Nat.reduceDiv, Nat.reduceBEq, Nat.reduceLeDiff, Int.reduceToNat, Int.reduceNe, Int.reduceEq, Int.reduceLT, Int.reduceLE, Int.reduceBEq, Int.reduceBNe, ne_eq, not_true_eq_false, not_false_eq_true, decide_true, decide_false, List.length_map, h3, h7, h8, h9, hs, e8, Try.results37]
theorem balancesR_ev (l : List Deb) (limit : Int) (hl : limit ≤ 1000000000000) (h0 : 0 ≤ limit) (hd : debtsF l limit = true) : Ev Try.prog 38 [DL l] (.new 3 1 ((balF l).map I)) := by
  obtain ⟨g1, g2⟩ := (debtsF_iff l limit).1 hd
  refine ev_of Try.func38 rfl (by kernel_rfl) mo (Nat.le_of_ble_eq_true rfl) ?_
  simp -implicitDefEqProofs (disch := omega) only [go_sem, ↓reduceIte, Nat.reduceEqDiff, Nat.reduceMul, Nat.reduceAdd, Nat.reduceDiv, Nat.reduceBEq, Nat.reduceLeDiff, Int.reduceToNat, Int.reduceNe, Int.reduceEq, Int.reduceLT, Int.reduceLE, Int.reduceBEq, Int.reduceBNe, ne_eq, not_true_eq_false, not_false_eq_true, decide_true, decide_false, List.length_map, Try.ntmps38]
  refine loopC_mk (fun n E σ => ∃ v : Nat, v + n = l.length ∧ E 0 = DL l ∧ E 3 = .own 81789008 1 0 8 ∧ E 4 = I v ∧ σ 81789008 = some ⟨3, 1, (balN l v).map I⟩) l.length ⟨0, by omega, ?_⟩ ?_
  · simp -implicitDefEqProofs (disch := omega) only [go_sem, ↓reduceIte, Nat.reduceEqDiff, Nat.reduceMul, Nat.reduceAdd, Nat.reduceDiv, Nat.reduceBEq, Nat.reduceLeDiff, Int.reduceToNat, Int.reduceNe, Int.reduceEq, Int.reduceLT, Int.reduceLE, Int.reduceBEq, Int.reduceBNe, ne_eq, not_true_eq_false, not_false_eq_true, decide_true, decide_false, List.length_map]
    simp [balN]
  · rintro n E σ ⟨v, hv, h0', h3, h4, hs⟩
    simp -implicitDefEqProofs (disch := omega) only [go_sem, ↓reduceIte, Nat.reduceEqDiff, Nat.reduceMul, Nat.reduceAdd, Nat.reduceDiv, Nat.reduceBEq, Nat.reduceLeDiff, Int.reduceToNat, Int.reduceNe, Int.reduceEq, Int.reduceLT, Int.reduceLE, Int.reduceBEq, Int.reduceBNe, ne_eq, not_true_eq_false, not_false_eq_true, decide_true, decide_false, List.length_map, h0', h3, h4, hs]
    have hlen := balN_length l v
    refine branch_mk (fun hc => ?_) (fun hc => ?_)
    · have hb := g2 v (by omega)
      unfold badF at hb
      obtain ⟨_, _, _, _, w1, w2, w3, w4⟩ := balN_step l g2 h0 hl g1 v (by omega)
      have hlen2 := addF_length (balN l v) (gd l v).2.1 (gd l v).2.2
      simp -implicitDefEqProofs (disch := omega) only [go_sem, ↓reduceIte, Nat.reduceEqDiff, Nat.reduceMul, Nat.reduceAdd, Nat.reduceDiv, Nat.reduceBEq, Nat.reduceLeDiff, Int.reduceToNat, Int.reduceNe, Int.reduceEq, Int.reduceLT, Int.reduceLE, Int.reduceBEq, Int.reduceBNe, ne_eq, not_true_eq_false, not_false_eq_true, decide_true, decide_false, List.length_map, h0', h3, h4, hs, w1, w2, w3, w4]
      refine againQ_mk (n - 1) (by omega) ⟨v + 1, by omega, ?_⟩
      simp -implicitDefEqProofs (disch := omega) only [go_sem, ↓reduceIte, Nat.reduceEqDiff, Nat.reduceMul, Nat.reduceAdd, Nat.reduceDiv, Nat.reduceBEq, Nat.reduceLeDiff, Int.reduceToNat, Int.reduceNe, Int.reduceEq, Int.reduceLT, Int.reduceLE, Int.reduceBEq, Int.reduceBNe, ne_eq, not_true_eq_false, not_false_eq_true, decide_true, decide_false, List.length_map, h0', h3, h4, hs]
      simp
    · have e : v = l.length := by omega
      subst e
      have e8 : (balN l l.length).take 8 = balF l := List.take_of_length_le (by omega)
      simp -implicitDefEqProofs (disch := omega) only [go_sem, ↓reduceIte, Nat.reduceEqDiff, Nat.reduceMul, Nat.reduceAdd, Nat.reduceDiv, Nat.reduceBEq, Nat.reduceLeDiff, Int.reduceToNat, Int.reduceNe, Int.reduceEq, Int.reduceLT, Int.reduceLE, Int.reduceBEq, Int.reduceBNe, ne_eq, not_true_eq_false, not_false_eq_true, decide_true, decide_false, List.length_map, h0', h3, h4, hs, e8, Try.results38]
end Go.Proofs.Ytjbgckjcbmmobaa

/- The contracts of chapter 39: what balances are; equal lists; checks. -/
set_option maxRecDepth 100000
set_option linter.unusedSimpArgs false
namespace Go.Proofs.Ytjbgckjcbmmobaa
open Go.Vai Go Go.Proofs

theorem valid_ev (l : List Deb) (hl : l.length ≤ 9223372036854775807) : Ev Try.prog 22 [DL l] (B (debtsF l 1000000000)) := by
  refine ev_of Try.func22 rfl (by kernel_rfl) mo (Nat.le_of_ble_eq_true rfl) ?_
  simp -implicitDefEqProofs (disch := omega) only [go_sem, ↓reduceIte, Nat.reduceEqDiff, Nat.reduceMul, Nat.reduceAdd, Nat.reduceDiv, Nat.reduceBEq, Nat.reduceLeDiff, Int.reduceToNat, Int.reduceNe, Int.reduceEq, Int.reduceLT, Int.reduceLE, Int.reduceBEq, Int.reduceBNe, ne_eq, not_true_eq_false, not_false_eq_true, decide_true, decide_false, List.length_map, Try.ntmps22]
  refine callC_at (areDebts_ev l _ hl) ?_
  simp -implicitDefEqProofs (disch := omega) only [go_sem, ↓reduceIte, Nat.reduceEqDiff, Nat.reduceMul, Nat.reduceAdd, Nat.reduceDiv, Nat.reduceBEq, Nat.reduceLeDiff, Int.reduceToNat, Int.reduceNe, Int.reduceEq, Int.reduceLT, Int.reduceLE, Int.reduceBEq, Int.reduceBNe, ne_eq, not_true_eq_false, not_false_eq_true, decide_true, decide_false, List.length_map, Try.results22]
theorem validR_ev (l : List Deb) (hl : l.length ≤ 9223372036854775807) : Ev Try.prog 23 [DL l] (B (debtsF l 1000000000)) := by
  refine ev_of Try.func23 rfl (by kernel_rfl) mo (Nat.le_of_ble_eq_true rfl) ?_
  simp -implicitDefEqProofs (disch := omega) only [go_sem, ↓reduceIte, Nat.reduceEqDiff, Nat.reduceMul, Nat.reduceAdd, Nat.reduceDiv, Nat.reduceBEq, Nat.reduceLeDiff, Int.reduceToNat, Int.reduceNe, Int.reduceEq, Int.reduceLT, Int.reduceLE, Int.reduceBEq, Int.reduceBNe, ne_eq, not_true_eq_false, not_false_eq_true, decide_true, decide_false, List.length_map, Try.ntmps23]
  refine callC_at (debts_ev l _ hl) ?_
  simp -implicitDefEqProofs (disch := omega) only [go_sem, ↓reduceIte, Nat.reduceEqDiff, Nat.reduceMul, Nat.reduceAdd, Nat.reduceDiv, Nat.reduceBEq, Nat.reduceLeDiff, Int.reduceToNat, Int.reduceNe, Int.reduceEq, Int.reduceLT, Int.reduceLE, Int.reduceBEq, Int.reduceBNe, ne_eq, not_true_eq_false, not_false_eq_true, decide_true, decide_false, List.length_map, Try.results23]
theorem bal_ev (l : List Deb) (hl : l.length ≤ 9223372036854775807) : Ev Try.prog 14 [DL l] (balR l) := by
  refine ev_of Try.func14 rfl (by kernel_rfl) mo (Nat.le_of_ble_eq_true rfl) ?_
  simp -implicitDefEqProofs (disch := omega) only [go_sem, ↓reduceIte, Nat.reduceEqDiff, Nat.reduceMul, Nat.reduceAdd, Nat.reduceDiv, Nat.reduceBEq, Nat.reduceLeDiff, Int.reduceToNat, Int.reduceNe, Int.reduceEq, Int.reduceLT, Int.reduceLE, Int.reduceBEq, Int.reduceBNe, ne_eq, not_true_eq_false, not_false_eq_true, decide_true, decide_false, List.length_map, Try.ntmps14]
  refine callC_at (valid_ev l hl) ?_
  simp -implicitDefEqProofs (disch := omega) only [go_sem, ↓reduceIte, Nat.reduceEqDiff, Nat.reduceMul, Nat.reduceAdd, Nat.reduceDiv, Nat.reduceBEq, Nat.reduceLeDiff, Int.reduceToNat, Int.reduceNe, Int.reduceEq, Int.reduceLT, Int.reduceLE, Int.reduceBEq, Int.reduceBNe, ne_eq, not_true_eq_false, not_false_eq_true, decide_true, decide_false, List.length_map]
  refine branch_mk (fun hb => ?_) (fun hb => ?_)
  · simp -implicitDefEqProofs (disch := omega) only [go_sem, ↓reduceIte, Nat.reduceEqDiff, Nat.reduceMul, Nat.reduceAdd, Nat.reduceDiv, Nat.reduceBEq, Nat.reduceLeDiff, Int.reduceToNat, Int.reduceNe, Int.reduceEq, Int.reduceLT, Int.reduceLE, Int.reduceBEq, Int.reduceBNe, ne_eq, not_true_eq_false, not_false_eq_true, decide_true, decide_false, List.length_map, Try.results14]
    simp [balR, hb]
  · have hb : debtsF l 1000000000 = true := by simpa using hb
    simp -implicitDefEqProofs (disch := omega) only [go_sem, ↓reduceIte, Nat.reduceEqDiff, Nat.reduceMul, Nat.reduceAdd, Nat.reduceDiv, Nat.reduceBEq, Nat.reduceLeDiff, Int.reduceToNat, Int.reduceNe, Int.reduceEq, Int.reduceLT, Int.reduceLE, Int.reduceBEq, Int.reduceBNe, ne_eq, not_true_eq_false, not_false_eq_true, decide_true, decide_false, List.length_map]
    refine callC_at (balances_ev l _ (by decide) (by decide) hb) ?_
    simp -implicitDefEqProofs (disch := omega) only [go_sem, ↓reduceIte, Nat.reduceEqDiff, Nat.reduceMul, Nat.reduceAdd, Nat.reduceDiv, Nat.reduceBEq, Nat.reduceLeDiff, Int.reduceToNat, Int.reduceNe, Int.reduceEq, Int.reduceLT, Int.reduceLE, Int.reduceBEq, Int.reduceBNe, ne_eq, not_true_eq_false, not_false_eq_true, decide_true, decide_false, List.length_map, Try.results14]
    simp [balR, hb]
theorem balRef_ev (l : List Deb) (hl : l.length ≤ 9223372036854775807) : Ev Try.prog 15 [DL l] (balR l) := by
  refine ev_of Try.func15 rfl (by kernel_rfl) mo (Nat.le_of_ble_eq_true rfl) ?_
  simp -implicitDefEqProofs (disch := omega) only [go_sem, ↓reduceIte, Nat.reduceEqDiff, Nat.reduceMul, Nat.reduceAdd, Nat.reduceDiv, Nat.reduceBEq, Nat.reduceLeDiff, Int.reduceToNat, Int.reduceNe, Int.reduceEq, Int.reduceLT, Int.reduceLE, Int.reduceBEq, Int.reduceBNe, ne_eq, not_true_eq_false, not_false_eq_true, decide_true, decide_false, List.length_map, Try.ntmps15]
  refine callC_at (validR_ev l hl) ?_
  simp -implicitDefEqProofs (disch := omega) only [go_sem, ↓reduceIte, Nat.reduceEqDiff, Nat.reduceMul, Nat.reduceAdd, Nat.reduceDiv, Nat.reduceBEq, Nat.reduceLeDiff, Int.reduceToNat, Int.reduceNe, Int.reduceEq, Int.reduceLT, Int.reduceLE, Int.reduceBEq, Int.reduceBNe, ne_eq, not_true_eq_false, not_false_eq_true, decide_true, decide_false, List.length_map]
  refine branch_mk (fun hb => ?_) (fun hb => ?_)
  · simp -implicitDefEqProofs (disch := omega) only [go_sem, ↓reduceIte, Nat.reduceEqDiff, Nat.reduceMul, Nat.reduceAdd, Nat.reduceDiv, Nat.reduceBEq, Nat.reduceLeDiff, Int.reduceToNat, Int.reduceNe, Int.reduceEq, Int.reduceLT, Int.reduceLE, Int.reduceBEq, Int.reduceBNe, ne_eq, not_true_eq_false, not_false_eq_true, decide_true, decide_false, List.length_map, Try.results15]
    simp [balR, hb]
  · have hb : debtsF l 1000000000 = true := by simpa using hb
    simp -implicitDefEqProofs (disch := omega) only [go_sem, ↓reduceIte, Nat.reduceEqDiff, Nat.reduceMul, Nat.reduceAdd, Nat.reduceDiv, Nat.reduceBEq, Nat.reduceLeDiff, Int.reduceToNat, Int.reduceNe, Int.reduceEq, Int.reduceLT, Int.reduceLE, Int.reduceBEq, Int.reduceBNe, ne_eq, not_true_eq_false, not_false_eq_true, decide_true, decide_false, List.length_map]
    refine callC_at (balancesR_ev l _ (by decide) (by decide) hb) ?_
    simp -implicitDefEqProofs (disch := omega) only [go_sem, ↓reduceIte, Nat.reduceEqDiff, Nat.reduceMul, Nat.reduceAdd, Nat.reduceDiv, Nat.reduceBEq, Nat.reduceLeDiff, Int.reduceToNat, Int.reduceNe, Int.reduceEq, Int.reduceLT, Int.reduceLE, Int.reduceBEq, Int.reduceBNe, ne_eq, not_true_eq_false, not_false_eq_true, decide_true, decide_false, List.length_map, Try.results15]
    simp [balR, hb]
theorem good_ev (l : List Int) (hl : l.length ≤ 9223372036854775807) : Ev Try.prog 47 [SL l] (B (goodF l)) := by
  refine ev_of Try.func47 rfl (by kernel_rfl) mo (Nat.le_of_ble_eq_true rfl) ?_
  simp -implicitDefEqProofs (disch := omega) only [go_sem, ↓reduceIte, Nat.reduceEqDiff, Nat.reduceMul, Nat.reduceAdd, Nat.reduceDiv, Nat.reduceBEq, Nat.reduceLeDiff, Int.reduceToNat, Int.reduceNe, Int.reduceEq, Int.reduceLT, Int.reduceLE, Int.reduceBEq, Int.reduceBNe, ne_eq, not_true_eq_false, not_false_eq_true, decide_true, decide_false, List.length_map, Try.ntmps47]
  refine loopC_mk (fun n E σ => ∃ v : Nat, v + n = l.length ∧ E 0 = SL l ∧ E 3 = I (sumW l v) ∧ E 4 = I v ∧ ∀ i, i < v → inF (gd l i) (-1000000000000) 1000000000000 = true) l.length ⟨0, by omega, ?_⟩ ?_
  · simp -implicitDefEqProofs (disch := omega) only [go_sem, ↓reduceIte, Nat.reduceEqDiff, Nat.reduceMul, Nat.reduceAdd, Nat.reduceDiv, Nat.reduceBEq, Nat.reduceLeDiff, Int.reduceToNat, Int.reduceNe, Int.reduceEq, Int.reduceLT, Int.reduceLE, Int.reduceBEq, Int.reduceBNe, ne_eq, not_true_eq_false, not_false_eq_true, decide_true, decide_false, List.length_map]
    simp [sumW]
  · rintro n E σ ⟨v, hv, h0, h3, h4, hall⟩
    simp -implicitDefEqProofs (disch := omega) only [go_sem, ↓reduceIte, Nat.reduceEqDiff, Nat.reduceMul, Nat.reduceAdd, Nat.reduceDiv, Nat.reduceBEq, Nat.reduceLeDiff, Int.reduceToNat, Int.reduceNe, Int.reduceEq, Int.reduceLT, Int.reduceLE, Int.reduceBEq, Int.reduceBNe, ne_eq, not_true_eq_false, not_false_eq_true, decide_true, decide_false, List.length_map, h0, h3, h4]
    refine branch_mk (fun hc => ?_) (fun hc => ?_)
    · simp -implicitDefEqProofs (disch := omega) only [go_sem, ↓reduceIte, Nat.reduceEqDiff, Nat.reduceMul, Nat.reduceAdd, Nat.reduceDiv, Nat.reduceBEq, Nat.reduceLeDiff, Int.reduceToNat, Int.reduceNe, Int.reduceEq, Int.reduceLT, Int.reduceLE, Int.reduceBEq, Int.reduceBNe, ne_eq, not_true_eq_false, not_false_eq_true, decide_true, decide_false, List.length_map, h0, h3, h4]
      refine callC_at (in_ev _ _ _) ?_
      simp -implicitDefEqProofs (disch := omega) only [go_sem, ↓reduceIte, Nat.reduceEqDiff, Nat.reduceMul, Nat.reduceAdd, Nat.reduceDiv, Nat.reduceBEq, Nat.reduceLeDiff, Int.reduceToNat, Int.reduceNe, Int.reduceEq, Int.reduceLT, Int.reduceLE, Int.reduceBEq, Int.reduceBNe, ne_eq, not_true_eq_false, not_false_eq_true, decide_true, decide_false, List.length_map, h0, h3, h4]
      refine branch_mk (fun hb => ?_) (fun hb => ?_)
      · simp -implicitDefEqProofs (disch := omega) only [go_sem, ↓reduceIte, Nat.reduceEqDiff, Nat.reduceMul, Nat.reduceAdd, Nat.reduceDiv, Nat.reduceBEq, Nat.reduceLeDiff, Int.reduceToNat, Int.reduceNe, Int.reduceEq, Int.reduceLT, Int.reduceLE, Int.reduceBEq, Int.reduceBNe, ne_eq, not_true_eq_false, not_false_eq_true, decide_true, decide_false, List.length_map, h0, h3, h4, Try.results47]
        rw [good_not l v (by omega) (by simpa using hb)]
      · simp -implicitDefEqProofs (disch := omega) only [go_sem, ↓reduceIte, Nat.reduceEqDiff, Nat.reduceMul, Nat.reduceAdd, Nat.reduceDiv, Nat.reduceBEq, Nat.reduceLeDiff, Int.reduceToNat, Int.reduceNe, Int.reduceEq, Int.reduceLT, Int.reduceLE, Int.reduceBEq, Int.reduceBNe, ne_eq, not_true_eq_false, not_false_eq_true, decide_true, decide_false, List.length_map, h0, h3, h4]
        refine againQ_mk (n - 1) (by omega) ⟨v + 1, by omega, ?_⟩
        simp -implicitDefEqProofs (disch := omega) only [go_sem, ↓reduceIte, Nat.reduceEqDiff, Nat.reduceMul, Nat.reduceAdd, Nat.reduceDiv, Nat.reduceBEq, Nat.reduceLeDiff, Int.reduceToNat, Int.reduceNe, Int.reduceEq, Int.reduceLT, Int.reduceLE, Int.reduceBEq, Int.reduceBNe, ne_eq, not_true_eq_false, not_false_eq_true, decide_true, decide_false, List.length_map, h0, h3, h4]
        refine ⟨rfl, by simp, fun i hi => ?_⟩
        by_cases e : i = v
        · subst e; simpa using hb
        · exact hall i (by omega)
    · simp -implicitDefEqProofs (disch := omega) only [go_sem, ↓reduceIte, Nat.reduceEqDiff, Nat.reduceMul, Nat.reduceAdd, Nat.reduceDiv, Nat.reduceBEq, Nat.reduceLeDiff, Int.reduceToNat, Int.reduceNe, Int.reduceEq, Int.reduceLT, Int.reduceLE, Int.reduceBEq, Int.reduceBNe, ne_eq, not_true_eq_false, not_false_eq_true, decide_true, decide_false, List.length_map, h0, h3, h4]
      have e : v = l.length := by omega
      subst e
      refine branch_mk (fun hb => ?_) (fun hb => ?_)
      · simp -implicitDefEqProofs (disch := omega) only [go_sem, ↓reduceIte, Nat.reduceEqDiff, Nat.reduceMul, Nat.reduceAdd, Nat.reduceDiv, Nat.reduceBEq, Nat.reduceLeDiff, Int.reduceToNat, Int.reduceNe, Int.reduceEq, Int.reduceLT, Int.reduceLE, Int.reduceBEq, Int.reduceBNe, ne_eq, not_true_eq_false, not_false_eq_true, decide_true, decide_false, List.length_map, h0, h3, h4, Try.results47]
        rw [good_sum l hall (by omega)]
      · simp -implicitDefEqProofs (disch := omega) only [go_sem, ↓reduceIte, Nat.reduceEqDiff, Nat.reduceMul, Nat.reduceAdd, Nat.reduceDiv, Nat.reduceBEq, Nat.reduceLeDiff, Int.reduceToNat, Int.reduceNe, Int.reduceEq, Int.reduceLT, Int.reduceLE, Int.reduceBEq, Int.reduceBNe, ne_eq, not_true_eq_false, not_false_eq_true, decide_true, decide_false, List.length_map, h0, h3, h4, Try.results47]
        rw [good_len l (by omega)]
theorem isGood_ev (l : List Int) (hl : l.length ≤ 9223372036854775807) : Ev Try.prog 48 [SL l] (B (goodF l)) := by
  refine ev_of Try.func48 rfl (by kernel_rfl) mo (Nat.le_of_ble_eq_true rfl) ?_
  simp -implicitDefEqProofs (disch := omega) only [go_sem, ↓reduceIte, Nat.reduceEqDiff, Nat.reduceMul, Nat.reduceAdd, Nat.reduceDiv, Nat.reduceBEq, Nat.reduceLeDiff, Int.reduceToNat, Int.reduceNe, Int.reduceEq, Int.reduceLT, Int.reduceLE, Int.reduceBEq, Int.reduceBNe, ne_eq, not_true_eq_false, not_false_eq_true, decide_true, decide_false, List.length_map, Try.ntmps48]
  refine loopC_mk (fun n E σ => ∃ v : Nat, v + n = l.length ∧ E 0 = SL l ∧ E 3 = I (sumW l v) ∧ E 6 = SL l ∧ E 7 = I l.length ∧ E 8 = I v ∧ ∀ i, i < v → inF (gd l i) (-1000000000000) 1000000000000 = true) l.length ⟨0, by omega, ?_⟩ ?_
  · simp -implicitDefEqProofs (disch := omega) only [go_sem, ↓reduceIte, Nat.reduceEqDiff, Nat.reduceMul, Nat.reduceAdd, Nat.reduceDiv, Nat.reduceBEq, Nat.reduceLeDiff, Int.reduceToNat, Int.reduceNe, Int.reduceEq, Int.reduceLT, Int.reduceLE, Int.reduceBEq, Int.reduceBNe, ne_eq, not_true_eq_false, not_false_eq_true, decide_true, decide_false, List.length_map]
    simp [sumW]
  · rintro n E σ ⟨v, hv, h0, h3, h6, h7, h8, hall⟩
    simp -implicitDefEqProofs (disch := omega) only [go_sem, ↓reduceIte, Nat.reduceEqDiff, Nat.reduceMul, Nat.reduceAdd, Nat.reduceDiv, Nat.reduceBEq, Nat.reduceLeDiff, Int.reduceToNat, Int.reduceNe, Int.reduceEq, Int.reduceLT, Int.reduceLE, Int.reduceBEq, Int.reduceBNe, ne_eq, not_true_eq_false, not_false_eq_true, decide_true, decide_false, List.length_map, h0, h3, h6, h7, h8]
    refine branch_mk (fun hc => ?_) (fun hc => ?_)
    · simp -implicitDefEqProofs (disch := omega) only [go_sem, ↓reduceIte, Nat.reduceEqDiff, Nat.reduceMul, Nat.reduceAdd, Nat.reduceDiv, Nat.reduceBEq, Nat.reduceLeDiff, Int.reduceToNat, Int.reduceNe, Int.reduceEq, Int.reduceLT, Int.reduceLE, Int.reduceBEq, Int.reduceBNe, ne_eq, not_true_eq_false, not_false_eq_true, decide_true, decide_false, List.length_map, h0, h3, h6, h7, h8]
      refine callC_at (isIn_ev _ _ _) ?_
      simp -implicitDefEqProofs (disch := omega) only [go_sem, ↓reduceIte, Nat.reduceEqDiff, Nat.reduceMul, Nat.reduceAdd, Nat.reduceDiv, Nat.reduceBEq, Nat.reduceLeDiff, Int.reduceToNat, Int.reduceNe, Int.reduceEq, Int.reduceLT, Int.reduceLE, Int.reduceBEq, Int.reduceBNe, ne_eq, not_true_eq_false, not_false_eq_true, decide_true, decide_false, List.length_map, h0, h3, h6, h7, h8]
      refine branch_mk (fun hb => ?_) (fun hb => ?_)
      · simp -implicitDefEqProofs (disch := omega) only [go_sem, ↓reduceIte, Nat.reduceEqDiff, Nat.reduceMul, Nat.reduceAdd, Nat.reduceDiv, Nat.reduceBEq, Nat.reduceLeDiff, Int.reduceToNat, Int.reduceNe, Int.reduceEq, Int.reduceLT, Int.reduceLE, Int.reduceBEq, Int.reduceBNe, ne_eq, not_true_eq_false, not_false_eq_true, decide_true, decide_false, List.length_map, h0, h3, h6, h7, h8, Try.results48]
        rw [good_not l v (by omega) (by simpa using hb)]
      · simp -implicitDefEqProofs (disch := omega) only [go_sem, ↓reduceIte, Nat.reduceEqDiff, Nat.reduceMul, Nat.reduceAdd, Nat.reduceDiv, Nat.reduceBEq, Nat.reduceLeDiff, Int.reduceToNat, Int.reduceNe, Int.reduceEq, Int.reduceLT, Int.reduceLE, Int.reduceBEq, Int.reduceBNe, ne_eq, not_true_eq_false, not_false_eq_true, decide_true, decide_false, List.length_map, h0, h3, h6, h7, h8]
        refine againQ_mk (n - 1) (by omega) ⟨v + 1, by omega, ?_⟩
        simp -implicitDefEqProofs (disch := omega) only [go_sem, ↓reduceIte, Nat.reduceEqDiff, Nat.reduceMul, Nat.reduceAdd, Nat.reduceDiv, Nat.reduceBEq, Nat.reduceLeDiff, Int.reduceToNat, Int.reduceNe, Int.reduceEq, Int.reduceLT, Int.reduceLE, Int.reduceBEq, Int.reduceBNe, ne_eq, not_true_eq_false, not_false_eq_true, decide_true, decide_false, List.length_map, h0, h3, h6, h7, h8]
        refine ⟨rfl, by simp, fun i hi => ?_⟩
        by_cases e : i = v
        · subst e; simpa using hb
        · exact hall i (by omega)
    · simp -implicitDefEqProofs (disch := omega) only [go_sem, ↓reduceIte, Nat.reduceEqDiff, Nat.reduceMul, Nat.reduceAdd, Nat.reduceDiv, Nat.reduceBEq, Nat.reduceLeDiff, Int.reduceToNat, Int.reduceNe, Int.reduceEq, Int.reduceLT, Int.reduceLE, Int.reduceBEq, Int.reduceBNe, ne_eq, not_true_eq_false, not_false_eq_true, decide_true, decide_false, List.length_map, h0, h3, h6, h7, h8]
      have e : v = l.length := by omega
      subst e
      refine branch_mk (fun hb => ?_) (fun hb => ?_)
      · simp -implicitDefEqProofs (disch := omega) only [go_sem, ↓reduceIte, Nat.reduceEqDiff, Nat.reduceMul, Nat.reduceAdd, Nat.reduceDiv, Nat.reduceBEq, Nat.reduceLeDiff, Int.reduceToNat, Int.reduceNe, Int.reduceEq, Int.reduceLT, Int.reduceLE, Int.reduceBEq, Int.reduceBNe, ne_eq, not_true_eq_false, not_false_eq_true, decide_true, decide_false, List.length_map, h0, h3, h6, h7, h8, Try.results48]
        rw [good_sum l hall (by omega)]
      · simp -implicitDefEqProofs (disch := omega) only [go_sem, ↓reduceIte, Nat.reduceEqDiff, Nat.reduceMul, Nat.reduceAdd, Nat.reduceDiv, Nat.reduceBEq, Nat.reduceLeDiff, Int.reduceToNat, Int.reduceNe, Int.reduceEq, Int.reduceLT, Int.reduceLE, Int.reduceBEq, Int.reduceBNe, ne_eq, not_true_eq_false, not_false_eq_true, decide_true, decide_false, List.length_map, h0, h3, h6, h7, h8, Try.results48]
        rw [good_len l (by omega)]
theorem ints_ev (a b : List Int) (ha : a.length ≤ 9223372036854775807) (hb : b.length ≤ 9223372036854775807) : Ev Try.prog 24 [SL a, SL b] (B (decide (a = b))) := by
  refine ev_of Try.func24 rfl (by kernel_rfl) mo (Nat.le_of_ble_eq_true rfl) ?_
  simp -implicitDefEqProofs (disch := omega) only [go_sem, ↓reduceIte, Nat.reduceEqDiff, Nat.reduceMul, Nat.reduceAdd, Nat.reduceDiv, Nat.reduceBEq, Nat.reduceLeDiff, Int.reduceToNat, Int.reduceNe, Int.reduceEq, Int.reduceLT, Int.reduceLE, Int.reduceBEq, Int.reduceBNe, ne_eq, not_true_eq_false, not_false_eq_true, decide_true, decide_false, List.length_map, Try.ntmps24]
  refine branch_mk (fun hb => ?_) (fun hb => ?_)
  · simp -implicitDefEqProofs (disch := omega) only [go_sem, ↓reduceIte, Nat.reduceEqDiff, Nat.reduceMul, Nat.reduceAdd, Nat.reduceDiv, Nat.reduceBEq, Nat.reduceLeDiff, Int.reduceToNat, Int.reduceNe, Int.reduceEq, Int.reduceLT, Int.reduceLE, Int.reduceBEq, Int.reduceBNe, ne_eq, not_true_eq_false, not_false_eq_true, decide_true, decide_false, List.length_map, Try.results24]
    have : ¬ a = b := fun e => by subst e; omega
    simp [this]
  · simp -implicitDefEqProofs (disch := omega) only [go_sem, ↓reduceIte, Nat.reduceEqDiff, Nat.reduceMul, Nat.reduceAdd, Nat.reduceDiv, Nat.reduceBEq, Nat.reduceLeDiff, Int.reduceToNat, Int.reduceNe, Int.reduceEq, Int.reduceLT, Int.reduceLE, Int.reduceBEq, Int.reduceBNe, ne_eq, not_true_eq_false, not_false_eq_true, decide_true, decide_false, List.length_map]
    refine loopC_mk (fun n E σ => ∃ v : Nat, v + n = a.length ∧ E 0 = SL a ∧ E 1 = SL b ∧ E 5 = I v ∧ ∀ i, i < v → gd a i = gd b i) a.length ⟨0, by omega, ?_⟩ ?_
    · simp -implicitDefEqProofs (disch := omega) only [go_sem, ↓reduceIte, Nat.reduceEqDiff, Nat.reduceMul, Nat.reduceAdd, Nat.reduceDiv, Nat.reduceBEq, Nat.reduceLeDiff, Int.reduceToNat, Int.reduceNe, Int.reduceEq, Int.reduceLT, Int.reduceLE, Int.reduceBEq, Int.reduceBNe, ne_eq, not_true_eq_false, not_false_eq_true, decide_true, decide_false, List.length_map]
      simp
    · rintro n E σ ⟨v, hv, h0, h1, h5, hall⟩
      simp -implicitDefEqProofs (disch := omega) only [go_sem, ↓reduceIte, Nat.reduceEqDiff, Nat.reduceMul, Nat.reduceAdd, Nat.reduceDiv, Nat.reduceBEq, Nat.reduceLeDiff, Int.reduceToNat, Int.reduceNe, Int.reduceEq, Int.reduceLT, Int.reduceLE, Int.reduceBEq, Int.reduceBNe, ne_eq, not_true_eq_false, not_false_eq_true, decide_true, decide_false, List.length_map, h0, h1, h5]
      refine branch_mk (fun hc => ?_) (fun hc => ?_)
      · simp -implicitDefEqProofs (disch := omega) only [go_sem, ↓reduceIte, Nat.reduceEqDiff, Nat.reduceMul, Nat.reduceAdd, Nat.reduceDiv, Nat.reduceBEq, Nat.reduceLeDiff, Int.reduceToNat, Int.reduceNe, Int.reduceEq, Int.reduceLT, Int.reduceLE, Int.reduceBEq, Int.reduceBNe, ne_eq, not_true_eq_false, not_false_eq_true, decide_true, decide_false, List.length_map, h0, h1, h5]
        refine branch_mk (fun hd => ?_) (fun hd => ?_)
        · simp -implicitDefEqProofs (disch := omega) only [go_sem, ↓reduceIte, Nat.reduceEqDiff, Nat.reduceMul, Nat.reduceAdd, Nat.reduceDiv, Nat.reduceBEq, Nat.reduceLeDiff, Int.reduceToNat, Int.reduceNe, Int.reduceEq, Int.reduceLT, Int.reduceLE, Int.reduceBEq, Int.reduceBNe, ne_eq, not_true_eq_false, not_false_eq_true, decide_true, decide_false, List.length_map, Try.results24]
          have : ¬ a = b := fun e => by subst e; simp at hd
          simp [this]
        · simp -implicitDefEqProofs (disch := omega) only [go_sem, ↓reduceIte, Nat.reduceEqDiff, Nat.reduceMul, Nat.reduceAdd, Nat.reduceDiv, Nat.reduceBEq, Nat.reduceLeDiff, Int.reduceToNat, Int.reduceNe, Int.reduceEq, Int.reduceLT, Int.reduceLE, Int.reduceBEq, Int.reduceBNe, ne_eq, not_true_eq_false, not_false_eq_true, decide_true, decide_false, List.length_map, h0, h1, h5]
          refine againQ_mk (n - 1) (by omega) ⟨v + 1, by omega, ?_⟩
          simp -implicitDefEqProofs (disch := omega) only [go_sem, ↓reduceIte, Nat.reduceEqDiff, Nat.reduceMul, Nat.reduceAdd, Nat.reduceDiv, Nat.reduceBEq, Nat.reduceLeDiff, Int.reduceToNat, Int.reduceNe, Int.reduceEq, Int.reduceLT, Int.reduceLE, Int.reduceBEq, Int.reduceBNe, ne_eq, not_true_eq_false, not_false_eq_true, decide_true, decide_false, List.length_map, h0, h1, h5]
          refine ⟨by simp, fun i hi => ?_⟩
          by_cases e : i = v
          · subst e
            simpa using hd
          · exact hall i (by omega)
      · simp -implicitDefEqProofs (disch := omega) only [go_sem, ↓reduceIte, Nat.reduceEqDiff, Nat.reduceMul, Nat.reduceAdd, Nat.reduceDiv, Nat.reduceBEq, Nat.reduceLeDiff, Int.reduceToNat, Int.reduceNe, Int.reduceEq, Int.reduceLT, Int.reduceLE, Int.reduceBEq, Int.reduceBNe, ne_eq, not_true_eq_false, not_false_eq_true, decide_true, decide_false, List.length_map, Try.results24]
        have : a = b := gd_ext (by omega) fun i hi => hall i (by omega)
        simp [this]
theorem equal_ev (a b : List Int) (ha : a.length ≤ 9223372036854775807) (hb : b.length ≤ 9223372036854775807) : Ev Try.prog 54 [SL a, SL b] (B (decide (a = b))) := by
  refine ev_of Try.func54 rfl (by kernel_rfl) mo (Nat.le_of_ble_eq_true rfl) ?_
  simp -implicitDefEqProofs (disch := omega) only [go_sem, ↓reduceIte, Nat.reduceEqDiff, Nat.reduceMul, Nat.reduceAdd, Nat.reduceDiv, Nat.reduceBEq, Nat.reduceLeDiff, Int.reduceToNat, Int.reduceNe, Int.reduceEq, Int.reduceLT, Int.reduceLE, Int.reduceBEq, Int.reduceBNe, ne_eq, not_true_eq_false, not_false_eq_true, decide_true, decide_false, List.length_map, Try.ntmps54]
  refine branch_mk (fun hb => ?_) (fun hb => ?_)
  · simp -implicitDefEqProofs (disch := omega) only [go_sem, ↓reduceIte, Nat.reduceEqDiff, Nat.reduceMul, Nat.reduceAdd, Nat.reduceDiv, Nat.reduceBEq, Nat.reduceLeDiff, Int.reduceToNat, Int.reduceNe, Int.reduceEq, Int.reduceLT, Int.reduceLE, Int.reduceBEq, Int.reduceBNe, ne_eq, not_true_eq_false, not_false_eq_true, decide_true, decide_false, List.length_map, Try.results54]
    have : ¬ a = b := fun e => by subst e; omega
    simp [this]
  · simp -implicitDefEqProofs (disch := omega) only [go_sem, ↓reduceIte, Nat.reduceEqDiff, Nat.reduceMul, Nat.reduceAdd, Nat.reduceDiv, Nat.reduceBEq, Nat.reduceLeDiff, Int.reduceToNat, Int.reduceNe, Int.reduceEq, Int.reduceLT, Int.reduceLE, Int.reduceBEq, Int.reduceBNe, ne_eq, not_true_eq_false, not_false_eq_true, decide_true, decide_false, List.length_map]
    refine loopC_mk (fun n E σ => ∃ v : Nat, v + n = a.length ∧ E 0 = SL a ∧ E 1 = SL b ∧ E 12 = I a.length ∧ E 13 = I v ∧ ∀ i, i < v → gd a i = gd b i) a.length ⟨0, by omega, ?_⟩ ?_
    · simp -implicitDefEqProofs (disch := omega) only [go_sem, ↓reduceIte, Nat.reduceEqDiff, Nat.reduceMul, Nat.reduceAdd, Nat.reduceDiv, Nat.reduceBEq, Nat.reduceLeDiff, Int.reduceToNat, Int.reduceNe, Int.reduceEq, Int.reduceLT, Int.reduceLE, Int.reduceBEq, Int.reduceBNe, ne_eq, not_true_eq_false, not_false_eq_true, decide_true, decide_false, List.length_map]
      simp
    · rintro n E σ ⟨v, hv, h0, h1, h12, h5, hall⟩
      simp -implicitDefEqProofs (disch := omega) only [go_sem, ↓reduceIte, Nat.reduceEqDiff, Nat.reduceMul, Nat.reduceAdd, Nat.reduceDiv, Nat.reduceBEq, Nat.reduceLeDiff, Int.reduceToNat, Int.reduceNe, Int.reduceEq, Int.reduceLT, Int.reduceLE, Int.reduceBEq, Int.reduceBNe, ne_eq, not_true_eq_false, not_false_eq_true, decide_true, decide_false, List.length_map, h0, h1, h12, h5]
      refine branch_mk (fun hc => ?_) (fun hc => ?_)
      · simp -implicitDefEqProofs (disch := omega) only [go_sem, ↓reduceIte, Nat.reduceEqDiff, Nat.reduceMul, Nat.reduceAdd, Nat.reduceDiv, Nat.reduceBEq, Nat.reduceLeDiff, Int.reduceToNat, Int.reduceNe, Int.reduceEq, Int.reduceLT, Int.reduceLE, Int.reduceBEq, Int.reduceBNe, ne_eq, not_true_eq_false, not_false_eq_true, decide_true, decide_false, List.length_map, h0, h1, h12, h5]
        refine branch_mk (fun hd => ?_) (fun hd => ?_)
        · simp -implicitDefEqProofs (disch := omega) only [go_sem, ↓reduceIte, Nat.reduceEqDiff, Nat.reduceMul, Nat.reduceAdd, Nat.reduceDiv, Nat.reduceBEq, Nat.reduceLeDiff, Int.reduceToNat, Int.reduceNe, Int.reduceEq, Int.reduceLT, Int.reduceLE, Int.reduceBEq, Int.reduceBNe, ne_eq, not_true_eq_false, not_false_eq_true, decide_true, decide_false, List.length_map, Try.results54]
          have : ¬ a = b := fun e => by subst e; simp at hd
          simp [this]
        · simp -implicitDefEqProofs (disch := omega) only [go_sem, ↓reduceIte, Nat.reduceEqDiff, Nat.reduceMul, Nat.reduceAdd, Nat.reduceDiv, Nat.reduceBEq, Nat.reduceLeDiff, Int.reduceToNat, Int.reduceNe, Int.reduceEq, Int.reduceLT, Int.reduceLE, Int.reduceBEq, Int.reduceBNe, ne_eq, not_true_eq_false, not_false_eq_true, decide_true, decide_false, List.length_map, h0, h1, h12, h5]
          refine againQ_mk (n - 1) (by omega) ⟨v + 1, by omega, ?_⟩
          simp -implicitDefEqProofs (disch := omega) only [go_sem, ↓reduceIte, Nat.reduceEqDiff, Nat.reduceMul, Nat.reduceAdd, Nat.reduceDiv, Nat.reduceBEq, Nat.reduceLeDiff, Int.reduceToNat, Int.reduceNe, Int.reduceEq, Int.reduceLT, Int.reduceLE, Int.reduceBEq, Int.reduceBNe, ne_eq, not_true_eq_false, not_false_eq_true, decide_true, decide_false, List.length_map, h0, h1, h12, h5]
          refine ⟨by simp, fun i hi => ?_⟩
          by_cases e : i = v
          · subst e
            simpa using hd
          · exact hall i (by omega)
      · simp -implicitDefEqProofs (disch := omega) only [go_sem, ↓reduceIte, Nat.reduceEqDiff, Nat.reduceMul, Nat.reduceAdd, Nat.reduceDiv, Nat.reduceBEq, Nat.reduceLeDiff, Int.reduceToNat, Int.reduceNe, Int.reduceEq, Int.reduceLT, Int.reduceLE, Int.reduceBEq, Int.reduceBNe, ne_eq, not_true_eq_false, not_false_eq_true, decide_true, decide_false, List.length_map, Try.results54]
        have : a = b := gd_ext (by omega) fun i hi => hall i (by omega)
        simp [this]
theorem same_ev (a b : List Deb) (ha : a.length ≤ 9223372036854775807) (hb : b.length ≤ 9223372036854775807) : Ev Try.prog 25 [DL a, DL b] (B (decide (a = b))) := by
  refine ev_of Try.func25 rfl (by kernel_rfl) mo (Nat.le_of_ble_eq_true rfl) ?_
  simp -implicitDefEqProofs (disch := omega) only [go_sem, ↓reduceIte, Nat.reduceEqDiff, Nat.reduceMul, Nat.reduceAdd, Nat.reduceDiv, Nat.reduceBEq, Nat.reduceLeDiff, Int.reduceToNat, Int.reduceNe, Int.reduceEq, Int.reduceLT, Int.reduceLE, Int.reduceBEq, Int.reduceBNe, ne_eq, not_true_eq_false, not_false_eq_true, decide_true, decide_false, List.length_map, Try.ntmps25]
  refine branch_mk (fun hb => ?_) (fun hb => ?_)
  · simp -implicitDefEqProofs (disch := omega) only [go_sem, ↓reduceIte, Nat.reduceEqDiff, Nat.reduceMul, Nat.reduceAdd, Nat.reduceDiv, Nat.reduceBEq, Nat.reduceLeDiff, Int.reduceToNat, Int.reduceNe, Int.reduceEq, Int.reduceLT, Int.reduceLE, Int.reduceBEq, Int.reduceBNe, ne_eq, not_true_eq_false, not_false_eq_true, decide_true, decide_false, List.length_map, Try.results25]
    have : ¬ a = b := fun e => by subst e; omega
    simp [this]
  · simp -implicitDefEqProofs (disch := omega) only [go_sem, ↓reduceIte, Nat.reduceEqDiff, Nat.reduceMul, Nat.reduceAdd, Nat.reduceDiv, Nat.reduceBEq, Nat.reduceLeDiff, Int.reduceToNat, Int.reduceNe, Int.reduceEq, Int.reduceLT, Int.reduceLE, Int.reduceBEq, Int.reduceBNe, ne_eq, not_true_eq_false, not_false_eq_true, decide_true, decide_false, List.length_map]
    refine loopC_mk (fun n E σ => ∃ v : Nat, v + n = a.length ∧ E 0 = DL a ∧ E 1 = DL b ∧ E 5 = I v ∧ ∀ i, i < v → gd a i = gd b i) a.length ⟨0, by omega, ?_⟩ ?_
    · simp -implicitDefEqProofs (disch := omega) only [go_sem, ↓reduceIte, Nat.reduceEqDiff, Nat.reduceMul, Nat.reduceAdd, Nat.reduceDiv, Nat.reduceBEq, Nat.reduceLeDiff, Int.reduceToNat, Int.reduceNe, Int.reduceEq, Int.reduceLT, Int.reduceLE, Int.reduceBEq, Int.reduceBNe, ne_eq, not_true_eq_false, not_false_eq_true, decide_true, decide_false, List.length_map]
      simp
    · rintro n E σ ⟨v, hv, h0, h1, h5, hall⟩
      simp -implicitDefEqProofs (disch := omega) only [go_sem, ↓reduceIte, Nat.reduceEqDiff, Nat.reduceMul, Nat.reduceAdd, Nat.reduceDiv, Nat.reduceBEq, Nat.reduceLeDiff, Int.reduceToNat, Int.reduceNe, Int.reduceEq, Int.reduceLT, Int.reduceLE, Int.reduceBEq, Int.reduceBNe, ne_eq, not_true_eq_false, not_false_eq_true, decide_true, decide_false, List.length_map, h0, h1, h5]
      refine branch_mk (fun hc => ?_) (fun hc => ?_)
      · simp -implicitDefEqProofs (disch := omega) only [go_sem, ↓reduceIte, Nat.reduceEqDiff, Nat.reduceMul, Nat.reduceAdd, Nat.reduceDiv, Nat.reduceBEq, Nat.reduceLeDiff, Int.reduceToNat, Int.reduceNe, Int.reduceEq, Int.reduceLT, Int.reduceLE, Int.reduceBEq, Int.reduceBNe, ne_eq, not_true_eq_false, not_false_eq_true, decide_true, decide_false, List.length_map, h0, h1, h5]
        refine branch_mk (fun hd => ?_) (fun hd => ?_)
        · simp -implicitDefEqProofs (disch := omega) only [go_sem, ↓reduceIte, Nat.reduceEqDiff, Nat.reduceMul, Nat.reduceAdd, Nat.reduceDiv, Nat.reduceBEq, Nat.reduceLeDiff, Int.reduceToNat, Int.reduceNe, Int.reduceEq, Int.reduceLT, Int.reduceLE, Int.reduceBEq, Int.reduceBNe, ne_eq, not_true_eq_false, not_false_eq_true, decide_true, decide_false, List.length_map, Try.results25]
          have : ¬ a = b := fun e => by subst e; simp at hd
          simp [this]
        · simp -implicitDefEqProofs (disch := omega) only [go_sem, ↓reduceIte, Nat.reduceEqDiff, Nat.reduceMul, Nat.reduceAdd, Nat.reduceDiv, Nat.reduceBEq, Nat.reduceLeDiff, Int.reduceToNat, Int.reduceNe, Int.reduceEq, Int.reduceLT, Int.reduceLE, Int.reduceBEq, Int.reduceBNe, ne_eq, not_true_eq_false, not_false_eq_true, decide_true, decide_false, List.length_map, h0, h1, h5]
          refine againQ_mk (n - 1) (by omega) ⟨v + 1, by omega, ?_⟩
          simp -implicitDefEqProofs (disch := omega) only [go_sem, ↓reduceIte, Nat.reduceEqDiff, Nat.reduceMul, Nat.reduceAdd, Nat.reduceDiv, Nat.reduceBEq, Nat.reduceLeDiff, Int.reduceToNat, Int.reduceNe, Int.reduceEq, Int.reduceLT, Int.reduceLE, Int.reduceBEq, Int.reduceBNe, ne_eq, not_true_eq_false, not_false_eq_true, decide_true, decide_false, List.length_map, h0, h1, h5]
          refine ⟨by simp, fun i hi => ?_⟩
          by_cases e : i = v
          · subst e
            simp at hd
            exact Prod.ext hd.1 (Prod.ext hd.2.1 hd.2.2)
          · exact hall i (by omega)
      · simp -implicitDefEqProofs (disch := omega) only [go_sem, ↓reduceIte, Nat.reduceEqDiff, Nat.reduceMul, Nat.reduceAdd, Nat.reduceDiv, Nat.reduceBEq, Nat.reduceLeDiff, Int.reduceToNat, Int.reduceNe, Int.reduceEq, Int.reduceLT, Int.reduceLE, Int.reduceBEq, Int.reduceBNe, ne_eq, not_true_eq_false, not_false_eq_true, decide_true, decide_false, List.length_map, Try.results25]
        have : a = b := gd_ext (by omega) fun i hi => hall i (by omega)
        simp [this]
theorem check_ev (l : List Int) (p : List Deb) (hl : l.length ≤ 9223372036854775807) (hp : p.length ≤ 9223372036854775807) : Ev Try.prog 31 [SL l, DL p] (B (checkF l p)) := by
  refine ev_of Try.func31 rfl (by kernel_rfl) mo (Nat.le_of_ble_eq_true rfl) ?_
  simp -implicitDefEqProofs (disch := omega) only [go_sem, ↓reduceIte, Nat.reduceEqDiff, Nat.reduceMul, Nat.reduceAdd, Nat.reduceDiv, Nat.reduceBEq, Nat.reduceLeDiff, Int.reduceToNat, Int.reduceNe, Int.reduceEq, Int.reduceLT, Int.reduceLE, Int.reduceBEq, Int.reduceBNe, ne_eq, not_true_eq_false, not_false_eq_true, decide_true, decide_false, List.length_map, Try.ntmps31]
  refine callC_at (isGood_ev l hl) ?_
  simp -implicitDefEqProofs (disch := omega) only [go_sem, ↓reduceIte, Nat.reduceEqDiff, Nat.reduceMul, Nat.reduceAdd, Nat.reduceDiv, Nat.reduceBEq, Nat.reduceLeDiff, Int.reduceToNat, Int.reduceNe, Int.reduceEq, Int.reduceLT, Int.reduceLE, Int.reduceBEq, Int.reduceBNe, ne_eq, not_true_eq_false, not_false_eq_true, decide_true, decide_false, List.length_map]
  refine branch_mk (fun hb => ?_) (fun hb => ?_)
  · simp -implicitDefEqProofs (disch := omega) only [go_sem, ↓reduceIte, Nat.reduceEqDiff, Nat.reduceMul, Nat.reduceAdd, Nat.reduceDiv, Nat.reduceBEq, Nat.reduceLeDiff, Int.reduceToNat, Int.reduceNe, Int.reduceEq, Int.reduceLT, Int.reduceLE, Int.reduceBEq, Int.reduceBNe, ne_eq, not_true_eq_false, not_false_eq_true, decide_true, decide_false, List.length_map]
    refine callC_at (areDebts_ev p _ hp) ?_
    simp -implicitDefEqProofs (disch := omega) only [go_sem, ↓reduceIte, Nat.reduceEqDiff, Nat.reduceMul, Nat.reduceAdd, Nat.reduceDiv, Nat.reduceBEq, Nat.reduceLeDiff, Int.reduceToNat, Int.reduceNe, Int.reduceEq, Int.reduceLT, Int.reduceLE, Int.reduceBEq, Int.reduceBNe, ne_eq, not_true_eq_false, not_false_eq_true, decide_true, decide_false, List.length_map]
    refine branch_mk (fun hb2 => ?_) (fun hb2 => ?_)
    · simp -implicitDefEqProofs (disch := omega) only [go_sem, ↓reduceIte, Nat.reduceEqDiff, Nat.reduceMul, Nat.reduceAdd, Nat.reduceDiv, Nat.reduceBEq, Nat.reduceLeDiff, Int.reduceToNat, Int.reduceNe, Int.reduceEq, Int.reduceLT, Int.reduceLE, Int.reduceBEq, Int.reduceBNe, ne_eq, not_true_eq_false, not_false_eq_true, decide_true, decide_false, List.length_map]
      refine callC_at (balances_ev p _ (by decide) (by decide) hb2) ?_
      have hlen : (balF p).length = 8 := balN_length p _
      simp -implicitDefEqProofs (disch := omega) only [go_sem, ↓reduceIte, Nat.reduceEqDiff, Nat.reduceMul, Nat.reduceAdd, Nat.reduceDiv, Nat.reduceBEq, Nat.reduceLeDiff, Int.reduceToNat, Int.reduceNe, Int.reduceEq, Int.reduceLT, Int.reduceLE, Int.reduceBEq, Int.reduceBNe, ne_eq, not_true_eq_false, not_false_eq_true, decide_true, decide_false, List.length_map]
      refine callC_at (equal_ev (balF p) l (by omega) hl) ?_
      simp -implicitDefEqProofs (disch := omega) only [go_sem, ↓reduceIte, Nat.reduceEqDiff, Nat.reduceMul, Nat.reduceAdd, Nat.reduceDiv, Nat.reduceBEq, Nat.reduceLeDiff, Int.reduceToNat, Int.reduceNe, Int.reduceEq, Int.reduceLT, Int.reduceLE, Int.reduceBEq, Int.reduceBNe, ne_eq, not_true_eq_false, not_false_eq_true, decide_true, decide_false, List.length_map, Try.results31]
      simp [checkF, hb, hb2]
    · simp -implicitDefEqProofs (disch := omega) only [go_sem, ↓reduceIte, Nat.reduceEqDiff, Nat.reduceMul, Nat.reduceAdd, Nat.reduceDiv, Nat.reduceBEq, Nat.reduceLeDiff, Int.reduceToNat, Int.reduceNe, Int.reduceEq, Int.reduceLT, Int.reduceLE, Int.reduceBEq, Int.reduceBNe, ne_eq, not_true_eq_false, not_false_eq_true, decide_true, decide_false, List.length_map, Try.results31]
      simp [checkF, hb2]
  · simp -implicitDefEqProofs (disch := omega) only [go_sem, ↓reduceIte, Nat.reduceEqDiff, Nat.reduceMul, Nat.reduceAdd, Nat.reduceDiv, Nat.reduceBEq, Nat.reduceLeDiff, Int.reduceToNat, Int.reduceNe, Int.reduceEq, Int.reduceLT, Int.reduceLE, Int.reduceBEq, Int.reduceBNe, ne_eq, not_true_eq_false, not_false_eq_true, decide_true, decide_false, List.length_map, Try.results31]
    simp [checkF, hb]
theorem checkR_ev (l : List Int) (p : List Deb) (hl : l.length ≤ 9223372036854775807) (hp : p.length ≤ 9223372036854775807) : Ev Try.prog 32 [SL l, DL p] (B (checkF l p)) := by
  refine ev_of Try.func32 rfl (by kernel_rfl) mo (Nat.le_of_ble_eq_true rfl) ?_
  simp -implicitDefEqProofs (disch := omega) only [go_sem, ↓reduceIte, Nat.reduceEqDiff, Nat.reduceMul, Nat.reduceAdd, Nat.reduceDiv, Nat.reduceBEq, Nat.reduceLeDiff, Int.reduceToNat, Int.reduceNe, Int.reduceEq, Int.reduceLT, Int.reduceLE, Int.reduceBEq, Int.reduceBNe, ne_eq, not_true_eq_false, not_false_eq_true, decide_true, decide_false, List.length_map, Try.ntmps32]
  refine branch_mk (fun hb0 => ?_) (fun hb0 => ?_)
  · simp -implicitDefEqProofs (disch := omega) only [go_sem, ↓reduceIte, Nat.reduceEqDiff, Nat.reduceMul, Nat.reduceAdd, Nat.reduceDiv, Nat.reduceBEq, Nat.reduceLeDiff, Int.reduceToNat, Int.reduceNe, Int.reduceEq, Int.reduceLT, Int.reduceLE, Int.reduceBEq, Int.reduceBNe, ne_eq, not_true_eq_false, not_false_eq_true, decide_true, decide_false, List.length_map, Try.results32]
    simp [checkF, good_len l (by omega)]
  · simp -implicitDefEqProofs (disch := omega) only [go_sem, ↓reduceIte, Nat.reduceEqDiff, Nat.reduceMul, Nat.reduceAdd, Nat.reduceDiv, Nat.reduceBEq, Nat.reduceLeDiff, Int.reduceToNat, Int.reduceNe, Int.reduceEq, Int.reduceLT, Int.reduceLE, Int.reduceBEq, Int.reduceBNe, ne_eq, not_true_eq_false, not_false_eq_true, decide_true, decide_false, List.length_map]
    refine callC_at (good_ev l hl) ?_
    simp -implicitDefEqProofs (disch := omega) only [go_sem, ↓reduceIte, Nat.reduceEqDiff, Nat.reduceMul, Nat.reduceAdd, Nat.reduceDiv, Nat.reduceBEq, Nat.reduceLeDiff, Int.reduceToNat, Int.reduceNe, Int.reduceEq, Int.reduceLT, Int.reduceLE, Int.reduceBEq, Int.reduceBNe, ne_eq, not_true_eq_false, not_false_eq_true, decide_true, decide_false, List.length_map]
    refine branch_mk (fun hb => ?_) (fun hb => ?_)
    · simp -implicitDefEqProofs (disch := omega) only [go_sem, ↓reduceIte, Nat.reduceEqDiff, Nat.reduceMul, Nat.reduceAdd, Nat.reduceDiv, Nat.reduceBEq, Nat.reduceLeDiff, Int.reduceToNat, Int.reduceNe, Int.reduceEq, Int.reduceLT, Int.reduceLE, Int.reduceBEq, Int.reduceBNe, ne_eq, not_true_eq_false, not_false_eq_true, decide_true, decide_false, List.length_map, Try.results32]
      simp [checkF, hb]
    · simp -implicitDefEqProofs (disch := omega) only [go_sem, ↓reduceIte, Nat.reduceEqDiff, Nat.reduceMul, Nat.reduceAdd, Nat.reduceDiv, Nat.reduceBEq, Nat.reduceLeDiff, Int.reduceToNat, Int.reduceNe, Int.reduceEq, Int.reduceLT, Int.reduceLE, Int.reduceBEq, Int.reduceBNe, ne_eq, not_true_eq_false, not_false_eq_true, decide_true, decide_false, List.length_map]
      refine callC_at (debts_ev p _ hp) ?_
      simp -implicitDefEqProofs (disch := omega) only [go_sem, ↓reduceIte, Nat.reduceEqDiff, Nat.reduceMul, Nat.reduceAdd, Nat.reduceDiv, Nat.reduceBEq, Nat.reduceLeDiff, Int.reduceToNat, Int.reduceNe, Int.reduceEq, Int.reduceLT, Int.reduceLE, Int.reduceBEq, Int.reduceBNe, ne_eq, not_true_eq_false, not_false_eq_true, decide_true, decide_false, List.length_map]
      refine branch_mk (fun hb2 => ?_) (fun hb2 => ?_)
      · simp -implicitDefEqProofs (disch := omega) only [go_sem, ↓reduceIte, Nat.reduceEqDiff, Nat.reduceMul, Nat.reduceAdd, Nat.reduceDiv, Nat.reduceBEq, Nat.reduceLeDiff, Int.reduceToNat, Int.reduceNe, Int.reduceEq, Int.reduceLT, Int.reduceLE, Int.reduceBEq, Int.reduceBNe, ne_eq, not_true_eq_false, not_false_eq_true, decide_true, decide_false, List.length_map, Try.results32]
        simp [checkF, hb2]
      · simp -implicitDefEqProofs (disch := omega) only [go_sem, ↓reduceIte, Nat.reduceEqDiff, Nat.reduceMul, Nat.reduceAdd, Nat.reduceDiv, Nat.reduceBEq, Nat.reduceLeDiff, Int.reduceToNat, Int.reduceNe, Int.reduceEq, Int.reduceLT, Int.reduceLE, Int.reduceBEq, Int.reduceBNe, ne_eq, not_true_eq_false, not_false_eq_true, decide_true, decide_false, List.length_map]
        have hb2' : debtsF p 1000000000000 = true := by simpa using hb2
        refine callC_at (balancesR_ev p _ (by decide) (by decide) hb2') ?_
        have hlen : (balF p).length = 8 := balN_length p _
        simp -implicitDefEqProofs (disch := omega) only [go_sem, ↓reduceIte, Nat.reduceEqDiff, Nat.reduceMul, Nat.reduceAdd, Nat.reduceDiv, Nat.reduceBEq, Nat.reduceLeDiff, Int.reduceToNat, Int.reduceNe, Int.reduceEq, Int.reduceLT, Int.reduceLE, Int.reduceBEq, Int.reduceBNe, ne_eq, not_true_eq_false, not_false_eq_true, decide_true, decide_false, List.length_map]
        refine callC_at (ints_ev (balF p) l (by omega) hl) ?_
        simp -implicitDefEqProofs (disch := omega) only [go_sem, ↓reduceIte, Nat.reduceEqDiff, Nat.reduceMul, Nat.reduceAdd, Nat.reduceDiv, Nat.reduceBEq, Nat.reduceLeDiff, Int.reduceToNat, Int.reduceNe, Int.reduceEq, Int.reduceLT, Int.reduceLE, Int.reduceBEq, Int.reduceBNe, ne_eq, not_true_eq_false, not_false_eq_true, decide_true, decide_false, List.length_map, Try.results32]
        have hb' : goodF l = true := by simpa using hb
        simp [checkF, hb', hb2']
end Go.Proofs.Ytjbgckjcbmmobaa

/- The contracts of chapter 39: what carriers owe; lists of numbers. -/
set_option maxRecDepth 100000
set_option linter.unusedSimpArgs false
namespace Go.Proofs.Ytjbgckjcbmmobaa
open Go.Vai Go Go.Proofs

theorem has_ev (l : List Int) (x : Int) (hl : l.length ≤ 9223372036854775807) : Ev Try.prog 64 [SL l, I x] (B (decide (x ∈ l))) := by
  refine ev_of Try.func64 rfl (by kernel_rfl) mo (Nat.le_of_ble_eq_true rfl) ?_
  simp -implicitDefEqProofs (disch := omega) only [go_sem, ↓reduceIte, Nat.reduceEqDiff, Nat.reduceMul, Nat.reduceAdd, Nat.reduceDiv, Nat.reduceBEq, Nat.reduceLeDiff, Int.reduceToNat, Int.reduceNe, Int.reduceEq, Int.reduceLT, Int.reduceLE, Int.reduceBEq, Int.reduceBNe, ne_eq, not_true_eq_false, not_false_eq_true, decide_true, decide_false, List.length_map, Try.ntmps64]
  refine loopC_mk (fun n E σ => ∃ v : Nat, v + n = l.length ∧ E 0 = SL l ∧ E 1 = I x ∧ E 5 = I v ∧ ∀ i, i < v → x ≠ gd l i) l.length ⟨0, by omega, ?_⟩ ?_
  · simp -implicitDefEqProofs (disch := omega) only [go_sem, ↓reduceIte, Nat.reduceEqDiff, Nat.reduceMul, Nat.reduceAdd, Nat.reduceDiv, Nat.reduceBEq, Nat.reduceLeDiff, Int.reduceToNat, Int.reduceNe, Int.reduceEq, Int.reduceLT, Int.reduceLE, Int.reduceBEq, Int.reduceBNe, ne_eq, not_true_eq_false, not_false_eq_true, decide_true, decide_false, List.length_map]
    simp
  · rintro n E σ ⟨v, hv, h0, h1, h5, hall⟩
    simp -implicitDefEqProofs (disch := omega) only [go_sem, ↓reduceIte, Nat.reduceEqDiff, Nat.reduceMul, Nat.reduceAdd, Nat.reduceDiv, Nat.reduceBEq, Nat.reduceLeDiff, Int.reduceToNat, Int.reduceNe, Int.reduceEq, Int.reduceLT, Int.reduceLE, Int.reduceBEq, Int.reduceBNe, ne_eq, not_true_eq_false, not_false_eq_true, decide_true, decide_false, List.length_map, h0, h1, h5]
    refine branch_mk (fun hc => ?_) (fun hc => ?_)
    · simp -implicitDefEqProofs (disch := omega) only [go_sem, ↓reduceIte, Nat.reduceEqDiff, Nat.reduceMul, Nat.reduceAdd, Nat.reduceDiv, Nat.reduceBEq, Nat.reduceLeDiff, Int.reduceToNat, Int.reduceNe, Int.reduceEq, Int.reduceLT, Int.reduceLE, Int.reduceBEq, Int.reduceBNe, ne_eq, not_true_eq_false, not_false_eq_true, decide_true, decide_false, List.length_map, h0, h1, h5]
      refine branch_mk (fun hb => ?_) (fun hb => ?_)
      · simp -implicitDefEqProofs (disch := omega) only [go_sem, ↓reduceIte, Nat.reduceEqDiff, Nat.reduceMul, Nat.reduceAdd, Nat.reduceDiv, Nat.reduceBEq, Nat.reduceLeDiff, Int.reduceToNat, Int.reduceNe, Int.reduceEq, Int.reduceLT, Int.reduceLE, Int.reduceBEq, Int.reduceBNe, ne_eq, not_true_eq_false, not_false_eq_true, decide_true, decide_false, List.length_map, h0, h1, h5, Try.results64]
        have : x ∈ l := (mem_gd l x).2 ⟨v, by omega, hb.symm⟩
        simp [this]
      · simp -implicitDefEqProofs (disch := omega) only [go_sem, ↓reduceIte, Nat.reduceEqDiff, Nat.reduceMul, Nat.reduceAdd, Nat.reduceDiv, Nat.reduceBEq, Nat.reduceLeDiff, Int.reduceToNat, Int.reduceNe, Int.reduceEq, Int.reduceLT, Int.reduceLE, Int.reduceBEq, Int.reduceBNe, ne_eq, not_true_eq_false, not_false_eq_true, decide_true, decide_false, List.length_map, h0, h1, h5]
        refine againQ_mk (n - 1) (by omega) ⟨v + 1, by omega, ?_⟩
        simp -implicitDefEqProofs (disch := omega) only [go_sem, ↓reduceIte, Nat.reduceEqDiff, Nat.reduceMul, Nat.reduceAdd, Nat.reduceDiv, Nat.reduceBEq, Nat.reduceLeDiff, Int.reduceToNat, Int.reduceNe, Int.reduceEq, Int.reduceLT, Int.reduceLE, Int.reduceBEq, Int.reduceBNe, ne_eq, not_true_eq_false, not_false_eq_true, decide_true, decide_false, List.length_map, h0, h1, h5]
        refine ⟨by simp, fun i hi => ?_⟩
        by_cases e : i = v
        · subst e; exact fun e => hb e.symm
        · exact hall i (by omega)
    · simp -implicitDefEqProofs (disch := omega) only [go_sem, ↓reduceIte, Nat.reduceEqDiff, Nat.reduceMul, Nat.reduceAdd, Nat.reduceDiv, Nat.reduceBEq, Nat.reduceLeDiff, Int.reduceToNat, Int.reduceNe, Int.reduceEq, Int.reduceLT, Int.reduceLE, Int.reduceBEq, Int.reduceBNe, ne_eq, not_true_eq_false, not_false_eq_true, decide_true, decide_false, List.length_map, h0, h1, h5, Try.results64]
      have : ¬ x ∈ l := fun h => by
        obtain ⟨i, hi, e⟩ := (mem_gd l x).1 h
        exact hall i (by omega) e
      simp [this]
theorem indexI_ev (l : List Int) (x : Int) (hl : l.length ≤ 1000000) : Ev Try.prog 63 [SL l, I x] (I (indexF l x 0 l.length)) := by
  refine ev_of Try.func63 rfl (by kernel_rfl) mo (Nat.le_of_ble_eq_true rfl) ?_
  simp -implicitDefEqProofs (disch := omega) only [go_sem, ↓reduceIte, Nat.reduceEqDiff, Nat.reduceMul, Nat.reduceAdd, Nat.reduceDiv, Nat.reduceBEq, Nat.reduceLeDiff, Int.reduceToNat, Int.reduceNe, Int.reduceEq, Int.reduceLT, Int.reduceLE, Int.reduceBEq, Int.reduceBNe, ne_eq, not_true_eq_false, not_false_eq_true, decide_true, decide_false, List.length_map, Try.ntmps63]
  refine loopC_mk (fun n E σ => ∃ v : Nat, v + n = l.length ∧ E 0 = SL l ∧ E 1 = I x ∧ E 7 = I l.length ∧ E 8 = I v ∧ indexF l x 0 l.length = indexF l x v n) l.length ⟨0, by omega, ?_⟩ ?_
  · simp -implicitDefEqProofs (disch := omega) only [go_sem, ↓reduceIte, Nat.reduceEqDiff, Nat.reduceMul, Nat.reduceAdd, Nat.reduceDiv, Nat.reduceBEq, Nat.reduceLeDiff, Int.reduceToNat, Int.reduceNe, Int.reduceEq, Int.reduceLT, Int.reduceLE, Int.reduceBEq, Int.reduceBNe, ne_eq, not_true_eq_false, not_false_eq_true, decide_true, decide_false, List.length_map]
    simp
  · rintro n E σ ⟨v, hv, h0, h1, h7, h8, hall⟩
    simp -implicitDefEqProofs (disch := omega) only [go_sem, ↓reduceIte, Nat.reduceEqDiff, Nat.reduceMul, Nat.reduceAdd, Nat.reduceDiv, Nat.reduceBEq, Nat.reduceLeDiff, Int.reduceToNat, Int.reduceNe, Int.reduceEq, Int.reduceLT, Int.reduceLE, Int.reduceBEq, Int.reduceBNe, ne_eq, not_true_eq_false, not_false_eq_true, decide_true, decide_false, List.length_map, h0, h1, h7, h8]
    refine branch_mk (fun hc => ?_) (fun hc => ?_)
    · simp -implicitDefEqProofs (disch := omega) only [go_sem, ↓reduceIte, Nat.reduceEqDiff, Nat.reduceMul, Nat.reduceAdd, Nat.reduceDiv, Nat.reduceBEq, Nat.reduceLeDiff, Int.reduceToNat, Int.reduceNe, Int.reduceEq, Int.reduceLT, Int.reduceLE, Int.reduceBEq, Int.reduceBNe, ne_eq, not_true_eq_false, not_false_eq_true, decide_true, decide_false, List.length_map, h0, h1, h7, h8]
      obtain ⟨m, rfl⟩ : ∃ m, n = m + 1 := ⟨n - 1, by omega⟩
      refine branch_mk (fun hb => ?_) (fun hb => ?_)
      · simp -implicitDefEqProofs (disch := omega) only [go_sem, ↓reduceIte, Nat.reduceEqDiff, Nat.reduceMul, Nat.reduceAdd, Nat.reduceDiv, Nat.reduceBEq, Nat.reduceLeDiff, Int.reduceToNat, Int.reduceNe, Int.reduceEq, Int.reduceLT, Int.reduceLE, Int.reduceBEq, Int.reduceBNe, ne_eq, not_true_eq_false, not_false_eq_true, decide_true, decide_false, List.length_map, h0, h1, h7, h8, Try.results63]
        rw [hall, indexF, if_pos hb]
      · simp -implicitDefEqProofs (disch := omega) only [go_sem, ↓reduceIte, Nat.reduceEqDiff, Nat.reduceMul, Nat.reduceAdd, Nat.reduceDiv, Nat.reduceBEq, Nat.reduceLeDiff, Int.reduceToNat, Int.reduceNe, Int.reduceEq, Int.reduceLT, Int.reduceLE, Int.reduceBEq, Int.reduceBNe, ne_eq, not_true_eq_false, not_false_eq_true, decide_true, decide_false, List.length_map, h0, h1, h7, h8]
        refine againQ_mk m (by omega) ⟨v + 1, by omega, ?_⟩
        simp -implicitDefEqProofs (disch := omega) only [go_sem, ↓reduceIte, Nat.reduceEqDiff, Nat.reduceMul, Nat.reduceAdd, Nat.reduceDiv, Nat.reduceBEq, Nat.reduceLeDiff, Int.reduceToNat, Int.reduceNe, Int.reduceEq, Int.reduceLT, Int.reduceLE, Int.reduceBEq, Int.reduceBNe, ne_eq, not_true_eq_false, not_false_eq_true, decide_true, decide_false, List.length_map, h0, h1, h7, h8]
        refine ⟨by simp, ?_⟩
        rw [hall, indexF, if_neg hb]
    · simp -implicitDefEqProofs (disch := omega) only [go_sem, ↓reduceIte, Nat.reduceEqDiff, Nat.reduceMul, Nat.reduceAdd, Nat.reduceDiv, Nat.reduceBEq, Nat.reduceLeDiff, Int.reduceToNat, Int.reduceNe, Int.reduceEq, Int.reduceLT, Int.reduceLE, Int.reduceBEq, Int.reduceBNe, ne_eq, not_true_eq_false, not_false_eq_true, decide_true, decide_false, List.length_map, h0, h1, h7, h8, Try.results63]
      have : n = 0 := by omega
      subst this; rw [hall]; rfl
theorem containsI_ev (l : List Int) (x : Int) (hl : l.length ≤ 1000000) : Ev Try.prog 56 [SL l, I x] (B (decide (x ∈ l))) := by
  refine ev_of Try.func56 rfl (by kernel_rfl) mo (Nat.le_of_ble_eq_true rfl) ?_
  simp -implicitDefEqProofs (disch := omega) only [go_sem, ↓reduceIte, Nat.reduceEqDiff, Nat.reduceMul, Nat.reduceAdd, Nat.reduceDiv, Nat.reduceBEq, Nat.reduceLeDiff, Int.reduceToNat, Int.reduceNe, Int.reduceEq, Int.reduceLT, Int.reduceLE, Int.reduceBEq, Int.reduceBNe, ne_eq, not_true_eq_false, not_false_eq_true, decide_true, decide_false, List.length_map, Try.ntmps56]
  refine callC_at (indexI_ev l x hl) ?_
  simp -implicitDefEqProofs (disch := omega) only [go_sem, ↓reduceIte, Nat.reduceEqDiff, Nat.reduceMul, Nat.reduceAdd, Nat.reduceDiv, Nat.reduceBEq, Nat.reduceLeDiff, Int.reduceToNat, Int.reduceNe, Int.reduceEq, Int.reduceLT, Int.reduceLE, Int.reduceBEq, Int.reduceBNe, ne_eq, not_true_eq_false, not_false_eq_true, decide_true, decide_false, List.length_map, Try.results56]
  have := index_mem l x
  simpa using this
theorem owes_ev (l : List Deb) (a b : Int) (hl : l.length ≤ 9223372036854775807) : Ev Try.prog 44 [DL l, I a, I b] (I (owesW l a b l.length)) := by
  refine ev_of Try.func44 rfl (by kernel_rfl) mo (Nat.le_of_ble_eq_true rfl) ?_
  simp -implicitDefEqProofs (disch := omega) only [go_sem, ↓reduceIte, Nat.reduceEqDiff, Nat.reduceMul, Nat.reduceAdd, Nat.reduceDiv, Nat.reduceBEq, Nat.reduceLeDiff, Int.reduceToNat, Int.reduceNe, Int.reduceEq, Int.reduceLT, Int.reduceLE, Int.reduceBEq, Int.reduceBNe, ne_eq, not_true_eq_false, not_false_eq_true, decide_true, decide_false, List.length_map, Try.ntmps44]
  refine loopC_mk (fun n E σ => ∃ v : Nat, v + n = l.length ∧ E 0 = DL l ∧ E 1 = I a ∧ E 2 = I b ∧ E 7 = I (owesW l a b v) ∧ E 8 = I v) l.length ⟨0, by omega, ?_⟩ ?_
  · simp -implicitDefEqProofs (disch := omega) only [go_sem, ↓reduceIte, Nat.reduceEqDiff, Nat.reduceMul, Nat.reduceAdd, Nat.reduceDiv, Nat.reduceBEq, Nat.reduceLeDiff, Int.reduceToNat, Int.reduceNe, Int.reduceEq, Int.reduceLT, Int.reduceLE, Int.reduceBEq, Int.reduceBNe, ne_eq, not_true_eq_false, not_false_eq_true, decide_true, decide_false, List.length_map]
    simp [owesW]
  · rintro n E σ ⟨v, hv, h0, h1, h2, h7, h8⟩
    simp -implicitDefEqProofs (disch := omega) only [go_sem, ↓reduceIte, Nat.reduceEqDiff, Nat.reduceMul, Nat.reduceAdd, Nat.reduceDiv, Nat.reduceBEq, Nat.reduceLeDiff, Int.reduceToNat, Int.reduceNe, Int.reduceEq, Int.reduceLT, Int.reduceLE, Int.reduceBEq, Int.reduceBNe, ne_eq, not_true_eq_false, not_false_eq_true, decide_true, decide_false, List.length_map, h0, h1, h2, h7, h8]
    refine branch_mk (fun hc => ?_) (fun hc => ?_)
    · simp -implicitDefEqProofs (disch := omega) only [go_sem, ↓reduceIte, Nat.reduceEqDiff, Nat.reduceMul, Nat.reduceAdd, Nat.reduceDiv, Nat.reduceBEq, Nat.reduceLeDiff, Int.reduceToNat, Int.reduceNe, Int.reduceEq, Int.reduceLT, Int.reduceLE, Int.reduceBEq, Int.reduceBNe, ne_eq, not_true_eq_false, not_false_eq_true, decide_true, decide_false, List.length_map, h0, h1, h2, h7, h8]
      repeat' (first | ((with_reducible refine branch_mk (fun hb => ?_) (fun hb => ?_)) <;> simp -implicitDefEqProofs (disch := omega) only [go_sem, ↓reduceIte, Nat.reduceEqDiff, Nat.reduceMul, Nat.reduceAdd, Nat.reduceDiv, Nat.reduceBEq, Nat.reduceLeDiff, Int.reduceToNat, Int.reduceNe, Int.reduceEq, Int.reduceLT, Int.reduceLE, Int.reduceBEq, Int.reduceBNe, ne_eq, not_true_eq_false, not_false_eq_true, decide_true, decide_false, List.length_map, h0, h1, h2, h7, h8, hb]))
      all_goals
        refine againQ_mk (n - 1) (by omega) ⟨v + 1, by omega, ?_⟩
        simp -implicitDefEqProofs (disch := omega) only [go_sem, ↓reduceIte, Nat.reduceEqDiff, Nat.reduceMul, Nat.reduceAdd, Nat.reduceDiv, Nat.reduceBEq, Nat.reduceLeDiff, Int.reduceToNat, Int.reduceNe, Int.reduceEq, Int.reduceLT, Int.reduceLE, Int.reduceBEq, Int.reduceBNe, ne_eq, not_true_eq_false, not_false_eq_true, decide_true, decide_false, List.length_map, h0, h1, h2, h7, h8]
        simp_all [owesW]
    · simp -implicitDefEqProofs (disch := omega) only [go_sem, ↓reduceIte, Nat.reduceEqDiff, Nat.reduceMul, Nat.reduceAdd, Nat.reduceDiv, Nat.reduceBEq, Nat.reduceLeDiff, Int.reduceToNat, Int.reduceNe, Int.reduceEq, Int.reduceLT, Int.reduceLE, Int.reduceBEq, Int.reduceBNe, ne_eq, not_true_eq_false, not_false_eq_true, decide_true, decide_false, List.length_map, h0, h1, h2, h7, h8, Try.results44]
      rw [show v = l.length from by omega]
end Go.Proofs.Ytjbgckjcbmmobaa

/- The contracts of chapter 39: pairs. -/
set_option maxRecDepth 100000
set_option linter.unusedSimpArgs false
namespace Go.Proofs.Ytjbgckjcbmmobaa
open Go.Vai Go Go.Proofs

theorem pairsR_ev (l : List Deb) (hl : l.length ≤ 9223372036854775807) : Ev Try.prog 41 [DL l] (.new 47 3 ((pairsF l).map DP)) := by
  unfold pairsF
  generalize hw : (fun a b : Nat => owesW l a b l.length) = w
  refine ev_of Try.func41 rfl (by kernel_rfl) mo (Nat.le_of_ble_eq_true rfl) ?_
  simp -implicitDefEqProofs (disch := omega) only [go_sem, ↓reduceIte, Nat.reduceEqDiff, Nat.reduceMul, Nat.reduceAdd, Nat.reduceDiv, Nat.reduceBEq, Nat.reduceLeDiff, Int.reduceToNat, Int.reduceNe, Int.reduceEq, Int.reduceLT, Int.reduceLE, Int.reduceBEq, Int.reduceBNe, ne_eq, not_true_eq_false, not_false_eq_true, decide_true, decide_false, List.length_map, Try.ntmps41]
  refine loopC_mk (fun n E σ => ∃ a : Nat, a + n = 8 ∧ E 0 = DL l ∧ E 4 = I a ∧ E 3 = .own 88080432 3 0 (listN w (8 * a)).length ∧ σ 88080432 = some ⟨47, 3, (listN w (8 * a)).map DP⟩) 8 ⟨0, by omega, ?_⟩ ?_
  · simp -implicitDefEqProofs (disch := omega) only [go_sem, ↓reduceIte, Nat.reduceEqDiff, Nat.reduceMul, Nat.reduceAdd, Nat.reduceDiv, Nat.reduceBEq, Nat.reduceLeDiff, Int.reduceToNat, Int.reduceNe, Int.reduceEq, Int.reduceLT, Int.reduceLE, Int.reduceBEq, Int.reduceBNe, ne_eq, not_true_eq_false, not_false_eq_true, decide_true, decide_false, List.length_map]
    simp [listN]
  · rintro n E σ ⟨a, ha, h0, h4, h3, hs⟩
    simp -implicitDefEqProofs (disch := omega) only [go_sem, ↓reduceIte, Nat.reduceEqDiff, Nat.reduceMul, Nat.reduceAdd, Nat.reduceDiv, Nat.reduceBEq, Nat.reduceLeDiff, Int.reduceToNat, Int.reduceNe, Int.reduceEq, Int.reduceLT, Int.reduceLE, Int.reduceBEq, Int.reduceBNe, ne_eq, not_true_eq_false, not_false_eq_true, decide_true, decide_false, List.length_map, h0, h4, h3, hs]
    refine branch_mk (fun hc => ?_) (fun hc => ?_)
    · simp -implicitDefEqProofs (disch := omega) only [go_sem, ↓reduceIte, Nat.reduceEqDiff, Nat.reduceMul, Nat.reduceAdd, Nat.reduceDiv, Nat.reduceBEq, Nat.reduceLeDiff, Int.reduceToNat, Int.reduceNe, Int.reduceEq, Int.reduceLT, Int.reduceLE, Int.reduceBEq, Int.reduceBNe, ne_eq, not_true_eq_false, not_false_eq_true, decide_true, decide_false, List.length_map, h0, h4, h3, hs]
      refine loopC_mk (fun m E σ => ∃ b : Nat, b + m = 8 ∧ E 0 = DL l ∧ E 4 = I a ∧ E 5 = I b ∧ E 3 = .own 88080432 3 0 (listN w (8 * a + b)).length ∧ σ 88080432 = some ⟨47, 3, (listN w (8 * a + b)).map DP⟩) 8 ⟨0, by omega, ?_⟩ ?_
      · simp -implicitDefEqProofs (disch := omega) only [go_sem, ↓reduceIte, Nat.reduceEqDiff, Nat.reduceMul, Nat.reduceAdd, Nat.reduceDiv, Nat.reduceBEq, Nat.reduceLeDiff, Int.reduceToNat, Int.reduceNe, Int.reduceEq, Int.reduceLT, Int.reduceLE, Int.reduceBEq, Int.reduceBNe, ne_eq, not_true_eq_false, not_false_eq_true, decide_true, decide_false, List.length_map, h0, h4, h3, hs]
        simp
      · clear h0 h4 h3 hs E σ
        rintro m E σ ⟨b, hb, h0, h4, h5, h3, hs⟩
        simp -implicitDefEqProofs (disch := omega) only [go_sem, ↓reduceIte, Nat.reduceEqDiff, Nat.reduceMul, Nat.reduceAdd, Nat.reduceDiv, Nat.reduceBEq, Nat.reduceLeDiff, Int.reduceToNat, Int.reduceNe, Int.reduceEq, Int.reduceLT, Int.reduceLE, Int.reduceBEq, Int.reduceBNe, ne_eq, not_true_eq_false, not_false_eq_true, decide_true, decide_false, List.length_map, h0, h4, h5, h3, hs]
        refine branch_mk (fun hc2 => ?_) (fun hc2 => ?_)
        · simp -implicitDefEqProofs (disch := omega) only [go_sem, ↓reduceIte, Nat.reduceEqDiff, Nat.reduceMul, Nat.reduceAdd, Nat.reduceDiv, Nat.reduceBEq, Nat.reduceLeDiff, Int.reduceToNat, Int.reduceNe, Int.reduceEq, Int.reduceLT, Int.reduceLE, Int.reduceBEq, Int.reduceBNe, ne_eq, not_true_eq_false, not_false_eq_true, decide_true, decide_false, List.length_map, h0, h4, h5, h3, hs]
          refine callC_at (owes_ev l a b hl) ?_
          have ew : owesW l a b l.length = w a b := by rw [← hw]
          rw [ew]
          have e1 : (8 * a + b) / 8 = a := by omega
          have e2 : (8 * a + b) % 8 = b := by omega
          have hll := listN_length w (8 * a + b)
          simp -implicitDefEqProofs (disch := omega) only [go_sem, ↓reduceIte, Nat.reduceEqDiff, Nat.reduceMul, Nat.reduceAdd, Nat.reduceDiv, Nat.reduceBEq, Nat.reduceLeDiff, Int.reduceToNat, Int.reduceNe, Int.reduceEq, Int.reduceLT, Int.reduceLE, Int.reduceBEq, Int.reduceBNe, ne_eq, not_true_eq_false, not_false_eq_true, decide_true, decide_false, List.length_map, h0, h4, h5, h3, hs]
          repeat' (first | ((with_reducible refine branch_mk (fun hb => ?_) (fun hb => ?_)) <;> simp -implicitDefEqProofs (disch := omega) only [go_sem, ↓reduceIte, Nat.reduceEqDiff, Nat.reduceMul, Nat.reduceAdd, Nat.reduceDiv, Nat.reduceBEq, Nat.reduceLeDiff, Int.reduceToNat, Int.reduceNe, Int.reduceEq, Int.reduceLT, Int.reduceLE, Int.reduceBEq, Int.reduceBNe, ne_eq, not_true_eq_false, not_false_eq_true, decide_true, decide_false, List.length_map, h0, h4, h5, h3, hs, hb]))
          · have en : listN w (8 * a + (b + 1)) = listN w (8 * a + b) ++ [((a : Int), (b : Int), w a b)] := by
              rw [show 8 * a + (b + 1) = (8 * a + b) + 1 from by omega, listN, e1, e2, if_pos ⟨by omega, by omega⟩]
            refine againQ_mk (m - 1) (by omega) ⟨b + 1, by omega, ?_⟩
            simp -implicitDefEqProofs (disch := omega) only [go_sem, ↓reduceIte, Nat.reduceEqDiff, Nat.reduceMul, Nat.reduceAdd, Nat.reduceDiv, Nat.reduceBEq, Nat.reduceLeDiff, Int.reduceToNat, Int.reduceNe, Int.reduceEq, Int.reduceLT, Int.reduceLE, Int.reduceBEq, Int.reduceBNe, ne_eq, not_true_eq_false, not_false_eq_true, decide_true, decide_false, List.length_map, h0, h4, h5, h3, hs, en]
            simp
          · have en : listN w (8 * a + (b + 1)) = listN w (8 * a + b) := by
              rw [show 8 * a + (b + 1) = (8 * a + b) + 1 from by omega, listN, e1, e2, if_neg (by omega)]; simp
            refine againQ_mk (m - 1) (by omega) ⟨b + 1, by omega, ?_⟩
            simp -implicitDefEqProofs (disch := omega) only [go_sem, ↓reduceIte, Nat.reduceEqDiff, Nat.reduceMul, Nat.reduceAdd, Nat.reduceDiv, Nat.reduceBEq, Nat.reduceLeDiff, Int.reduceToNat, Int.reduceNe, Int.reduceEq, Int.reduceLT, Int.reduceLE, Int.reduceBEq, Int.reduceBNe, ne_eq, not_true_eq_false, not_false_eq_true, decide_true, decide_false, List.length_map, h0, h4, h5, h3, hs, en]
            simp
          · have en : listN w (8 * a + (b + 1)) = listN w (8 * a + b) := by
              rw [show 8 * a + (b + 1) = (8 * a + b) + 1 from by omega, listN, e1, e2, if_neg (by omega)]; simp
            refine againQ_mk (m - 1) (by omega) ⟨b + 1, by omega, ?_⟩
            simp -implicitDefEqProofs (disch := omega) only [go_sem, ↓reduceIte, Nat.reduceEqDiff, Nat.reduceMul, Nat.reduceAdd, Nat.reduceDiv, Nat.reduceBEq, Nat.reduceLeDiff, Int.reduceToNat, Int.reduceNe, Int.reduceEq, Int.reduceLT, Int.reduceLE, Int.reduceBEq, Int.reduceBNe, ne_eq, not_true_eq_false, not_false_eq_true, decide_true, decide_false, List.length_map, h0, h4, h5, h3, hs, en]
            simp
        · simp -implicitDefEqProofs (disch := omega) only [go_sem, ↓reduceIte, Nat.reduceEqDiff, Nat.reduceMul, Nat.reduceAdd, Nat.reduceDiv, Nat.reduceBEq, Nat.reduceLeDiff, Int.reduceToNat, Int.reduceNe, Int.reduceEq, Int.reduceLT, Int.reduceLE, Int.reduceBEq, Int.reduceBNe, ne_eq, not_true_eq_false, not_false_eq_true, decide_true, decide_false, List.length_map, h0, h4, h5, h3, hs]
          refine againQ_mk (n - 1) (by omega) ⟨a + 1, by omega, ?_⟩
          simp -implicitDefEqProofs (disch := omega) only [go_sem, ↓reduceIte, Nat.reduceEqDiff, Nat.reduceMul, Nat.reduceAdd, Nat.reduceDiv, Nat.reduceBEq, Nat.reduceLeDiff, Int.reduceToNat, Int.reduceNe, Int.reduceEq, Int.reduceLT, Int.reduceLE, Int.reduceBEq, Int.reduceBNe, ne_eq, not_true_eq_false, not_false_eq_true, decide_true, decide_false, List.length_map, h0, h4, h5, h3, hs]
          rw [show 8 * (a + 1) = 8 * a + b from by omega]
          simp
    · simp -implicitDefEqProofs (disch := omega) only [go_sem, ↓reduceIte, Nat.reduceEqDiff, Nat.reduceMul, Nat.reduceAdd, Nat.reduceDiv, Nat.reduceBEq, Nat.reduceLeDiff, Int.reduceToNat, Int.reduceNe, Int.reduceEq, Int.reduceLT, Int.reduceLE, Int.reduceBEq, Int.reduceBNe, ne_eq, not_true_eq_false, not_false_eq_true, decide_true, decide_false, List.length_map, h0, h4, h3, hs, Try.results41]
      rw [show 8 * a = 64 from by omega]
/-- A book. -/
abbrev BK (w : List Int) : AV := .agg (w.map I)
theorem list_ev (q : List Int) (hq : q.length = 64) (hdia : ∀ i, i < 8 → gd q (8 * i + i) = 0) : Ev Try.prog 40 [.pt (BK q) 0] (.new 47 3 ((listN (fun a b => gd q (8 * a + b)) 64).map DP)) := by
  generalize hw : (fun a b : Nat => gd q (8 * a + b)) = w
  refine ev_of Try.func40 rfl (by kernel_rfl) mo (Nat.le_of_ble_eq_true rfl) ?_
  simp -implicitDefEqProofs (disch := omega) only [go_sem, ↓reduceIte, Nat.reduceEqDiff, Nat.reduceMul, Nat.reduceAdd, Nat.reduceDiv, Nat.reduceBEq, Nat.reduceLeDiff, Int.reduceToNat, Int.reduceNe, Int.reduceEq, Int.reduceLT, Int.reduceLE, Int.reduceBEq, Int.reduceBNe, ne_eq, not_true_eq_false, not_false_eq_true, decide_true, decide_false, List.length_map, Try.ntmps40]
  refine loopC_mk (fun n E σ => ∃ a : Nat, a + n = 8 ∧ E 8 = .pt (BK q) 0 ∧ E 10 = I a ∧ E 3 = .own 85983280 3 0 (listN w (8 * a)).length ∧ σ 85983280 = some ⟨47, 3, (listN w (8 * a)).map DP⟩) 8 ⟨0, by omega, ?_⟩ ?_
  · simp -implicitDefEqProofs (disch := omega) only [go_sem, ↓reduceIte, Nat.reduceEqDiff, Nat.reduceMul, Nat.reduceAdd, Nat.reduceDiv, Nat.reduceBEq, Nat.reduceLeDiff, Int.reduceToNat, Int.reduceNe, Int.reduceEq, Int.reduceLT, Int.reduceLE, Int.reduceBEq, Int.reduceBNe, ne_eq, not_true_eq_false, not_false_eq_true, decide_true, decide_false, List.length_map]
    simp [listN]
  · rintro n E σ ⟨a, ha, h8, h10, h3, hs⟩
    simp -implicitDefEqProofs (disch := omega) only [go_sem, ↓reduceIte, Nat.reduceEqDiff, Nat.reduceMul, Nat.reduceAdd, Nat.reduceDiv, Nat.reduceBEq, Nat.reduceLeDiff, Int.reduceToNat, Int.reduceNe, Int.reduceEq, Int.reduceLT, Int.reduceLE, Int.reduceBEq, Int.reduceBNe, ne_eq, not_true_eq_false, not_false_eq_true, decide_true, decide_false, List.length_map, h8, h10, h3, hs]
    refine branch_mk (fun hc => ?_) (fun hc => ?_)
    ·
      have hrow : ((q.drop (a * 8)).take 8).length = 8 := by simp; omega
      simp -implicitDefEqProofs (disch := omega) only [go_sem, ↓reduceIte, Nat.reduceEqDiff, Nat.reduceMul, Nat.reduceAdd, Nat.reduceDiv, Nat.reduceBEq, Nat.reduceLeDiff, Int.reduceToNat, Int.reduceNe, Int.reduceEq, Int.reduceLT, Int.reduceLE, Int.reduceBEq, Int.reduceBNe, ne_eq, not_true_eq_false, not_false_eq_true, decide_true, decide_false, List.length_map, h8, h10, h3, hs, hrow]
      have hgd : ∀ b : Nat, b < 8 → gd ((q.drop (a * 8)).take 8) b = w a b := fun b hb => by
        rw [gd_take _ _ _ hb, gd_drop, ← hw, Nat.mul_comm a 8]
      generalize (q.drop (a * 8)).take 8 = row at hrow hgd
      refine loopC_mk (fun m E σ => ∃ b : Nat, b + m = 8 ∧ E 8 = .pt (BK q) 0 ∧ E 10 = I a ∧ E 4 = I a ∧ E 16 = .agg (row.map I) ∧ E 17 = I b ∧ E 3 = .own 85983280 3 0 (listN w (8 * a + b)).length ∧ σ 85983280 = some ⟨47, 3, (listN w (8 * a + b)).map DP⟩) 8 ⟨0, by omega, ?_⟩ ?_
      · simp -implicitDefEqProofs (disch := omega) only [go_sem, ↓reduceIte, Nat.reduceEqDiff, Nat.reduceMul, Nat.reduceAdd, Nat.reduceDiv, Nat.reduceBEq, Nat.reduceLeDiff, Int.reduceToNat, Int.reduceNe, Int.reduceEq, Int.reduceLT, Int.reduceLE, Int.reduceBEq, Int.reduceBNe, ne_eq, not_true_eq_false, not_false_eq_true, decide_true, decide_false, List.length_map, h8, h10, h3, hs]
        simp
      · clear h8 h10 h3 hs E σ
        rintro m E σ ⟨b, hb, h8, h10, h4, h16, h17, h3, hs⟩
        simp -implicitDefEqProofs (disch := omega) only [go_sem, ↓reduceIte, Nat.reduceEqDiff, Nat.reduceMul, Nat.reduceAdd, Nat.reduceDiv, Nat.reduceBEq, Nat.reduceLeDiff, Int.reduceToNat, Int.reduceNe, Int.reduceEq, Int.reduceLT, Int.reduceLE, Int.reduceBEq, Int.reduceBNe, ne_eq, not_true_eq_false, not_false_eq_true, decide_true, decide_false, List.length_map, h8, h10, h4, h16, h17, h3, hs]
        refine branch_mk (fun hc2 => ?_) (fun hc2 => ?_)
        · have e1 : (8 * a + b) / 8 = a := by omega
          have e2 : (8 * a + b) % 8 = b := by omega
          have hll := listN_length w (8 * a + b)
          have eg := hgd b (by omega)
          simp -implicitDefEqProofs (disch := omega) only [go_sem, ↓reduceIte, Nat.reduceEqDiff, Nat.reduceMul, Nat.reduceAdd, Nat.reduceDiv, Nat.reduceBEq, Nat.reduceLeDiff, Int.reduceToNat, Int.reduceNe, Int.reduceEq, Int.reduceLT, Int.reduceLE, Int.reduceBEq, Int.reduceBNe, ne_eq, not_true_eq_false, not_false_eq_true, decide_true, decide_false, List.length_map, h8, h10, h4, h16, h17, h3, hs, eg]
          refine branch_mk (fun hb2 => ?_) (fun hb2 => ?_)
          · have hab : a ≠ b := fun e => by
              subst e
              have := hdia a (by omega)
              have hw2 : w a a = gd q (8 * a + a) := by rw [← hw]
              omega
            have en : listN w (8 * a + (b + 1)) = listN w (8 * a + b) ++ [((a : Int), (b : Int), w a b)] := by
              rw [show 8 * a + (b + 1) = (8 * a + b) + 1 from by omega, listN, e1, e2, if_pos ⟨by omega, by omega⟩]
            simp -implicitDefEqProofs (disch := omega) only [go_sem, ↓reduceIte, Nat.reduceEqDiff, Nat.reduceMul, Nat.reduceAdd, Nat.reduceDiv, Nat.reduceBEq, Nat.reduceLeDiff, Int.reduceToNat, Int.reduceNe, Int.reduceEq, Int.reduceLT, Int.reduceLE, Int.reduceBEq, Int.reduceBNe, ne_eq, not_true_eq_false, not_false_eq_true, decide_true, decide_false, List.length_map, h8, h10, h4, h16, h17, h3, hs, eg]
            refine againQ_mk (m - 1) (by omega) ⟨b + 1, by omega, ?_⟩
            simp -implicitDefEqProofs (disch := omega) only [go_sem, ↓reduceIte, Nat.reduceEqDiff, Nat.reduceMul, Nat.reduceAdd, Nat.reduceDiv, Nat.reduceBEq, Nat.reduceLeDiff, Int.reduceToNat, Int.reduceNe, Int.reduceEq, Int.reduceLT, Int.reduceLE, Int.reduceBEq, Int.reduceBNe, ne_eq, not_true_eq_false, not_false_eq_true, decide_true, decide_false, List.length_map, h8, h10, h4, h16, h17, h3, hs, en]
            simp
          · have en : listN w (8 * a + (b + 1)) = listN w (8 * a + b) := by
              rw [show 8 * a + (b + 1) = (8 * a + b) + 1 from by omega, listN, e1, e2, if_neg (by omega)]; simp
            simp -implicitDefEqProofs (disch := omega) only [go_sem, ↓reduceIte, Nat.reduceEqDiff, Nat.reduceMul, Nat.reduceAdd, Nat.reduceDiv, Nat.reduceBEq, Nat.reduceLeDiff, Int.reduceToNat, Int.reduceNe, Int.reduceEq, Int.reduceLT, Int.reduceLE, Int.reduceBEq, Int.reduceBNe, ne_eq, not_true_eq_false, not_false_eq_true, decide_true, decide_false, List.length_map, h8, h10, h4, h16, h17, h3, hs, eg]
            refine againQ_mk (m - 1) (by omega) ⟨b + 1, by omega, ?_⟩
            simp -implicitDefEqProofs (disch := omega) only [go_sem, ↓reduceIte, Nat.reduceEqDiff, Nat.reduceMul, Nat.reduceAdd, Nat.reduceDiv, Nat.reduceBEq, Nat.reduceLeDiff, Int.reduceToNat, Int.reduceNe, Int.reduceEq, Int.reduceLT, Int.reduceLE, Int.reduceBEq, Int.reduceBNe, ne_eq, not_true_eq_false, not_false_eq_true, decide_true, decide_false, List.length_map, h8, h10, h4, h16, h17, h3, hs, en]
            simp
        · simp -implicitDefEqProofs (disch := omega) only [go_sem, ↓reduceIte, Nat.reduceEqDiff, Nat.reduceMul, Nat.reduceAdd, Nat.reduceDiv, Nat.reduceBEq, Nat.reduceLeDiff, Int.reduceToNat, Int.reduceNe, Int.reduceEq, Int.reduceLT, Int.reduceLE, Int.reduceBEq, Int.reduceBNe, ne_eq, not_true_eq_false, not_false_eq_true, decide_true, decide_false, List.length_map, h8, h10, h4, h16, h17, h3, hs]
          refine againQ_mk (n - 1) (by omega) ⟨a + 1, by omega, ?_⟩
          simp -implicitDefEqProofs (disch := omega) only [go_sem, ↓reduceIte, Nat.reduceEqDiff, Nat.reduceMul, Nat.reduceAdd, Nat.reduceDiv, Nat.reduceBEq, Nat.reduceLeDiff, Int.reduceToNat, Int.reduceNe, Int.reduceEq, Int.reduceLT, Int.reduceLE, Int.reduceBEq, Int.reduceBNe, ne_eq, not_true_eq_false, not_false_eq_true, decide_true, decide_false, List.length_map, h8, h10, h4, h16, h17, h3, hs]
          rw [show 8 * (a + 1) = 8 * a + b from by omega]
          simp
    · simp -implicitDefEqProofs (disch := omega) only [go_sem, ↓reduceIte, Nat.reduceEqDiff, Nat.reduceMul, Nat.reduceAdd, Nat.reduceDiv, Nat.reduceBEq, Nat.reduceLeDiff, Int.reduceToNat, Int.reduceNe, Int.reduceEq, Int.reduceLT, Int.reduceLE, Int.reduceBEq, Int.reduceBNe, ne_eq, not_true_eq_false, not_false_eq_true, decide_true, decide_false, List.length_map, h8, h10, h3, hs, Try.results40]
      rw [show 8 * a = 64 from by omega]
end Go.Proofs.Ytjbgckjcbmmobaa

/- The contracts of chapter 39: the book of debts. -/
set_option maxRecDepth 100000
set_option linter.unusedSimpArgs false
namespace Go.Proofs.Ytjbgckjcbmmobaa
open Go.Vai Go Go.Proofs

section
variable {σ : Store} {R : AV → Prop}
/-- A pointer to a new block is returned. -/
@[go_sem] theorem retK_ptr (id s : Nat) : retK σ R [.ptr id s 0 0] = expoO (σ id) s 0 true σ (isId id) R := by
  simp only [retK, expOK, topIds, AV.single, expo, topP_one [.ptr id s 0 0] id rfl, eq_iff_iff, true_and]
  unfold expoO needV
  cases hb : σ id with
  | none =>
    simp only [iff_false]
    intro ⟨⟨_, h⟩, _⟩
    have := h _ (by simp : AV.ptr id s 0 0 ∈ [AV.ptr id s 0 0])
    simp [expOK1, hb] at this
  | some k =>
    refine ⟨fun ⟨⟨_, h⟩, hR⟩ => ?_, fun ⟨h, hR⟩ => ⟨⟨by simp, fun v hv => ?_⟩, hR⟩⟩
    · have := h _ (by simp : AV.ptr id s 0 0 ∈ [AV.ptr id s 0 0])
      simp only [expOK1, hb] at this
      obtain ⟨k', hk, h1, h2⟩ := this
      cases hk; exact ⟨⟨h1, h2⟩, hR⟩
    · simp only [List.mem_singleton] at hv; subst hv
      exact ⟨k, hb, h⟩
end
theorem open_ev (l : List Deb) (hd : debtsF l 1000000000 = true) : Ev Try.prog 39 [DL l] (.nptr 71 64 [BK (bookF l)]) := by
  obtain ⟨g1, g2⟩ := (debtsF_iff l _).1 hd
  refine ev_of Try.func39 rfl (by kernel_rfl) mo (Nat.le_of_ble_eq_true rfl) ?_
  simp -implicitDefEqProofs (disch := omega) only [go_sem, ↓reduceIte, Nat.reduceEqDiff, Nat.reduceMul, Nat.reduceAdd, Nat.reduceDiv, Nat.reduceBEq, Nat.reduceLeDiff, Int.reduceToNat, Int.reduceNe, Int.reduceEq, Int.reduceLT, Int.reduceLE, Int.reduceBEq, Int.reduceBNe, ne_eq, not_true_eq_false, not_false_eq_true, decide_true, decide_false, List.length_map, Try.ntmps39]
  refine loopC_mk (fun n E σ => ∃ (v : Nat) (q : List Int), v + n = l.length ∧ q.length = 64 ∧ (∀ a b : Nat, a < 8 → b < 8 → gd q (8 * a + b) = debN l a b v) ∧ E 3 = .ptr 83886128 64 0 0 ∧ E 9 = DL l ∧ E 10 = I l.length ∧ E 11 = I v ∧ σ 83886128 = some ⟨71, 64, [BK q]⟩) l.length ⟨0, List.replicate 64 0, by omega, by simp, ?_, ?_⟩ ?_
  · intro a b ha hb
    have : 8 * a + b < 64 := by omega
    rw [gd, List.getD_eq_getElem?_getD, List.getElem?_replicate, if_pos this]; rfl
  · simp -implicitDefEqProofs (disch := omega) only [go_sem, ↓reduceIte, Nat.reduceEqDiff, Nat.reduceMul, Nat.reduceAdd, Nat.reduceDiv, Nat.reduceBEq, Nat.reduceLeDiff, Int.reduceToNat, Int.reduceNe, Int.reduceEq, Int.reduceLT, Int.reduceLE, Int.reduceBEq, Int.reduceBNe, ne_eq, not_true_eq_false, not_false_eq_true, decide_true, decide_false, List.length_map]
    exact ⟨rfl, rfl⟩
  · rintro n E σ ⟨v, q, hv, hq, hall, h3, h9, h10, h11, hs⟩
    simp -implicitDefEqProofs (disch := omega) only [go_sem, ↓reduceIte, Nat.reduceEqDiff, Nat.reduceMul, Nat.reduceAdd, Nat.reduceDiv, Nat.reduceBEq, Nat.reduceLeDiff, Int.reduceToNat, Int.reduceNe, Int.reduceEq, Int.reduceLT, Int.reduceLE, Int.reduceBEq, Int.reduceBNe, ne_eq, not_true_eq_false, not_false_eq_true, decide_true, decide_false, List.length_map, h3, h9, h10, h11, hs]
    refine branch_mk (fun hc => ?_) (fun hc => ?_)
    · have hb := g2 v (by omega)
      unfold badF at hb
      have eg := hall (gd l v).1.toNat (gd l v).2.1.toNat (by omega) (by omega)
      rw [Nat.mul_comm 8] at eg
      have es := debN_small l g2 g1 ((gd l v).1.toNat : Int) ((gd l v).2.1.toNat : Int) v (by omega)
      have hw : IntKind.i64.wrap (gd q ((gd l v).1.toNat * 8 + (gd l v).2.1.toNat) + (gd l v).2.2) = gd q ((gd l v).1.toNat * 8 + (gd l v).2.1.toNat) + (gd l v).2.2 := wrap64_of (by omega)
      simp -implicitDefEqProofs (disch := omega) only [go_sem, ↓reduceIte, Nat.reduceEqDiff, Nat.reduceMul, Nat.reduceAdd, Nat.reduceDiv, Nat.reduceBEq, Nat.reduceLeDiff, Int.reduceToNat, Int.reduceNe, Int.reduceEq, Int.reduceLT, Int.reduceLE, Int.reduceBEq, Int.reduceBNe, ne_eq, not_true_eq_false, not_false_eq_true, decide_true, decide_false, List.length_map, h3, h9, h10, h11, hs, hq, hw]
      refine againQ_mk (n - 1) (by omega) ⟨v + 1, q.set ((gd l v).1.toNat * 8 + (gd l v).2.1.toNat) (gd q ((gd l v).1.toNat * 8 + (gd l v).2.1.toNat) + (gd l v).2.2), by omega, by simpa using hq, ?_, ?_⟩
      · intro a b ha hb
        rw [gd_set _ _ _ _ (by omega), eg, debN]
        by_cases e : 8 * a + b = (gd l v).1.toNat * 8 + (gd l v).2.1.toNat
        · have ea : (a : Int) = (gd l v).1 := by omega
          have eb : (b : Int) = (gd l v).2.1 := by omega
          rw [if_pos e, if_pos ⟨ea.symm, eb.symm⟩, show (gd l v).1.toNat = a from by omega, show (gd l v).2.1.toNat = b from by omega]
        · rw [if_neg e, if_neg (fun h => e (by omega)), hall a b ha hb]; omega
      · simp -implicitDefEqProofs (disch := omega) only [go_sem, ↓reduceIte, Nat.reduceEqDiff, Nat.reduceMul, Nat.reduceAdd, Nat.reduceDiv, Nat.reduceBEq, Nat.reduceLeDiff, Int.reduceToNat, Int.reduceNe, Int.reduceEq, Int.reduceLT, Int.reduceLE, Int.reduceBEq, Int.reduceBNe, ne_eq, not_true_eq_false, not_false_eq_true, decide_true, decide_false, List.length_map, h3, h9, h10, h11, hs, hq]
        simp
    · have ev : v = l.length := by omega
      subst ev
      clear hc hv h9 h10 h11
      simp -implicitDefEqProofs (disch := omega) only [go_sem, ↓reduceIte, Nat.reduceEqDiff, Nat.reduceMul, Nat.reduceAdd, Nat.reduceDiv, Nat.reduceBEq, Nat.reduceLeDiff, Int.reduceToNat, Int.reduceNe, Int.reduceEq, Int.reduceLT, Int.reduceLE, Int.reduceBEq, Int.reduceBNe, ne_eq, not_true_eq_false, not_false_eq_true, decide_true, decide_false, List.length_map, h3, hs]
      generalize hD : (fun a b : Nat => debN l a b l.length) = D
      have hDn : ∀ a b : Nat, debN l a b l.length = D a b := fun a b => by rw [← hD]
      have hDs : ∀ a b : Nat, 0 ≤ D a b ∧ D a b ≤ 60000000000 := fun a b => by rw [← hDn]; exact debN_small l g2 g1 a b _ (Nat.le_refl _)
      refine loopC_mk (fun n E σ => ∃ (i : Nat) (q : List Int), i + n = 8 ∧ q.length = 64 ∧ (∀ a b : Nat, a < 8 → b < 8 → a ≠ b → gd q (8 * a + b) = if max a b < i then max 0 (D a b - D b a) else D a b) ∧ (∀ a, a < 8 → gd q (8 * a + a) = 0) ∧ E 3 = .ptr 83886128 64 0 0 ∧ E 28 = I i ∧ σ 83886128 = some ⟨71, 64, [BK q]⟩) 8 ⟨0, q, by omega, hq, ?_, ?_, ?_⟩ ?_
      · intro a b ha hb _
        rw [hall a b ha hb, if_neg (by omega), hDn]
      · intro a ha
        rw [hall a a ha ha, debN_self l g2 _ _ (Nat.le_refl _)]
      · simp -implicitDefEqProofs (disch := omega) only [go_sem, ↓reduceIte, Nat.reduceEqDiff, Nat.reduceMul, Nat.reduceAdd, Nat.reduceDiv, Nat.reduceBEq, Nat.reduceLeDiff, Int.reduceToNat, Int.reduceNe, Int.reduceEq, Int.reduceLT, Int.reduceLE, Int.reduceBEq, Int.reduceBNe, ne_eq, not_true_eq_false, not_false_eq_true, decide_true, decide_false, List.length_map, h3, hs]
        simp
      · clear h3 hs hq hall q E σ n
        rintro n E σ ⟨i, q, hi, hq, hall, hdia, h3, h28, hs⟩
        simp -implicitDefEqProofs (disch := omega) only [go_sem, ↓reduceIte, Nat.reduceEqDiff, Nat.reduceMul, Nat.reduceAdd, Nat.reduceDiv, Nat.reduceBEq, Nat.reduceLeDiff, Int.reduceToNat, Int.reduceNe, Int.reduceEq, Int.reduceLT, Int.reduceLE, Int.reduceBEq, Int.reduceBNe, ne_eq, not_true_eq_false, not_false_eq_true, decide_true, decide_false, List.length_map, h3, h28, hs]
        refine branch_mk (fun hc => ?_) (fun hc => ?_)
        · simp -implicitDefEqProofs (disch := omega) only [go_sem, ↓reduceIte, Nat.reduceEqDiff, Nat.reduceMul, Nat.reduceAdd, Nat.reduceDiv, Nat.reduceBEq, Nat.reduceLeDiff, Int.reduceToNat, Int.reduceNe, Int.reduceEq, Int.reduceLT, Int.reduceLE, Int.reduceBEq, Int.reduceBNe, ne_eq, not_true_eq_false, not_false_eq_true, decide_true, decide_false, List.length_map, h3, h28, hs]
          refine loopC_mk (fun m E σ => ∃ (k : Nat) (q : List Int), k + m = i ∧ q.length = 64 ∧ (∀ a b : Nat, a < 8 → b < 8 → a ≠ b → gd q (8 * a + b) = if max a b < i ∨ max a b = i ∧ min a b < k then max 0 (D a b - D b a) else D a b) ∧ (∀ a, a < 8 → gd q (8 * a + a) = 0) ∧ E 3 = .ptr 83886128 64 0 0 ∧ E 6 = I i ∧ E 28 = I i ∧ E 31 = I i ∧ E 32 = I k ∧ σ 83886128 = some ⟨71, 64, [BK q]⟩) i ⟨0, q, by omega, hq, ?_, hdia, ?_⟩ ?_
          · intro a b ha hb hab
            rw [hall a b ha hb hab]
            simp
          · simp -implicitDefEqProofs (disch := omega) only [go_sem, ↓reduceIte, Nat.reduceEqDiff, Nat.reduceMul, Nat.reduceAdd, Nat.reduceDiv, Nat.reduceBEq, Nat.reduceLeDiff, Int.reduceToNat, Int.reduceNe, Int.reduceEq, Int.reduceLT, Int.reduceLE, Int.reduceBEq, Int.reduceBNe, ne_eq, not_true_eq_false, not_false_eq_true, decide_true, decide_false, List.length_map, h3, h28, hs]
            simp
          · clear h3 h28 hs hq hall hdia q E σ
            rintro m E σ ⟨k, q, hk, hq, hall, hdia, h3, h6, h28, h31, h32, hs⟩
            simp -implicitDefEqProofs (disch := omega) only [go_sem, ↓reduceIte, Nat.reduceEqDiff, Nat.reduceMul, Nat.reduceAdd, Nat.reduceDiv, Nat.reduceBEq, Nat.reduceLeDiff, Int.reduceToNat, Int.reduceNe, Int.reduceEq, Int.reduceLT, Int.reduceLE, Int.reduceBEq, Int.reduceBNe, ne_eq, not_true_eq_false, not_false_eq_true, decide_true, decide_false, List.length_map, h3, h6, h28, h31, h32, hs]
            refine branch_mk (fun hc2 => ?_) (fun hc2 => ?_)
            · have g1' := hall i k (by omega) (by omega) (by omega)
              have g2' := hall k i (by omega) (by omega) (by omega)
              rw [if_neg (by omega), Nat.mul_comm 8] at g1' g2'
              have d1 := hDs i k
              have d2 := hDs k i
              have w1 : IntKind.i64.wrap (D i k - min (D i k) (D k i)) = max 0 (D i k - D k i) := by rw [wrap64_of (by omega)]; omega
              have w2 : IntKind.i64.wrap (D k i - min (D i k) (D k i)) = max 0 (D k i - D i k) := by rw [wrap64_of (by omega)]; omega
              have w3 : ∀ x, gd (q.set (i * 8 + k) x) (k * 8 + i) = D k i := fun x => by rw [gd_set _ _ _ _ (by omega), if_neg (by omega), g2']
              simp -implicitDefEqProofs (disch := omega) only [go_sem, ↓reduceIte, Nat.reduceEqDiff, Nat.reduceMul, Nat.reduceAdd, Nat.reduceDiv, Nat.reduceBEq, Nat.reduceLeDiff, Int.reduceToNat, Int.reduceNe, Int.reduceEq, Int.reduceLT, Int.reduceLE, Int.reduceBEq, Int.reduceBNe, ne_eq, not_true_eq_false, not_false_eq_true, decide_true, decide_false, List.length_map, h3, h6, h28, h31, h32, hs, hq, g1', g2', w1, w2, w3]
              refine againQ_mk (m - 1) (by omega) ⟨k + 1, (q.set (i * 8 + k) (max 0 (D i k - D k i))).set (k * 8 + i) (max 0 (D k i - D i k)), by omega, by simpa using hq, ?_, ?_, ?_⟩
              · intro a b ha hb hab
                rw [gd_set _ _ _ _ (by rw [List.length_set]; omega), gd_set _ _ _ _ (by omega)]
                by_cases e1 : 8 * a + b = k * 8 + i
                · have ea : a = k := by omega
                  have eb : b = i := by omega
                  subst ea; subst eb
                  rw [if_pos e1, if_pos (by omega)]
                · rw [if_neg e1]
                  by_cases e2 : 8 * a + b = i * 8 + k
                  · have ea : a = i := by omega
                    have eb : b = k := by omega
                    subst ea; subst eb
                    rw [if_pos e2, if_pos (by omega)]
                  · rw [if_neg e2, hall a b ha hb hab]
                    simp only [show (max a b < i ∨ max a b = i ∧ min a b < k) ↔ (max a b < i ∨ max a b = i ∧ min a b < k + 1) from by omega]
              · intro a ha
                rw [gd_set _ _ _ _ (by rw [List.length_set]; omega), gd_set _ _ _ _ (by omega), if_neg (by omega), if_neg (by omega), hdia a ha]
              · simp -implicitDefEqProofs (disch := omega) only [go_sem, ↓reduceIte, Nat.reduceEqDiff, Nat.reduceMul, Nat.reduceAdd, Nat.reduceDiv, Nat.reduceBEq, Nat.reduceLeDiff, Int.reduceToNat, Int.reduceNe, Int.reduceEq, Int.reduceLT, Int.reduceLE, Int.reduceBEq, Int.reduceBNe, ne_eq, not_true_eq_false, not_false_eq_true, decide_true, decide_false, List.length_map, h3, h6, h28, h31, h32, hs, hq]
                simp
                exact (List.set_eq_take_append_cons_drop.trans (if_pos (by simp; omega))).symm
            · simp -implicitDefEqProofs (disch := omega) only [go_sem, ↓reduceIte, Nat.reduceEqDiff, Nat.reduceMul, Nat.reduceAdd, Nat.reduceDiv, Nat.reduceBEq, Nat.reduceLeDiff, Int.reduceToNat, Int.reduceNe, Int.reduceEq, Int.reduceLT, Int.reduceLE, Int.reduceBEq, Int.reduceBNe, ne_eq, not_true_eq_false, not_false_eq_true, decide_true, decide_false, List.length_map, h3, h6, h28, h31, h32, hs]
              refine againQ_mk (n - 1) (by omega) ⟨i + 1, q, by omega, hq, ?_, hdia, ?_⟩
              · intro a b ha hb hab
                rw [hall a b ha hb hab]
                simp only [show (max a b < i ∨ max a b = i ∧ min a b < k) ↔ max a b < i + 1 from by omega]
              · simp -implicitDefEqProofs (disch := omega) only [go_sem, ↓reduceIte, Nat.reduceEqDiff, Nat.reduceMul, Nat.reduceAdd, Nat.reduceDiv, Nat.reduceBEq, Nat.reduceLeDiff, Int.reduceToNat, Int.reduceNe, Int.reduceEq, Int.reduceLT, Int.reduceLE, Int.reduceBEq, Int.reduceBNe, ne_eq, not_true_eq_false, not_false_eq_true, decide_true, decide_false, List.length_map, h3, h6, h28, h31, h32, hs]
                simp
        · have : q = bookF l := gd_ext (by rw [hq, bookF_length]) fun j hj => by
            rw [show j = 8 * (j / 8) + j % 8 from by omega, bookF_gd l (j / 8) (j % 8) (by omega) (by omega), hDn, hDn]
            by_cases e : j / 8 = j % 8
            · rw [e, hdia _ (by omega)]; omega
            · rw [hall _ _ (by omega) (by omega) e, if_pos (by omega)]
          subst this
          simp -implicitDefEqProofs (disch := omega) only [go_sem, ↓reduceIte, Nat.reduceEqDiff, Nat.reduceMul, Nat.reduceAdd, Nat.reduceDiv, Nat.reduceBEq, Nat.reduceLeDiff, Int.reduceToNat, Int.reduceNe, Int.reduceEq, Int.reduceLT, Int.reduceLE, Int.reduceBEq, Int.reduceBNe, ne_eq, not_true_eq_false, not_false_eq_true, decide_true, decide_false, List.length_map, h3, h28, hs, Try.results39]
end Go.Proofs.Ytjbgckjcbmmobaa

/- The contracts of chapter 39: pairs of debts. -/
set_option maxRecDepth 100000
set_option linter.unusedSimpArgs false
namespace Go.Proofs.Ytjbgckjcbmmobaa
open Go.Vai Go Go.Proofs

theorem Pairs_ev (l : List Deb) (hl : l.length ≤ 9223372036854775807) : Ev Try.prog 16 [DL l] (pairsT l) := by
  refine ev_of Try.func16 rfl (by kernel_rfl) mo (Nat.le_of_ble_eq_true rfl) ?_
  simp -implicitDefEqProofs (disch := omega) only [go_sem, ↓reduceIte, Nat.reduceEqDiff, Nat.reduceMul, Nat.reduceAdd, Nat.reduceDiv, Nat.reduceBEq, Nat.reduceLeDiff, Int.reduceToNat, Int.reduceNe, Int.reduceEq, Int.reduceLT, Int.reduceLE, Int.reduceBEq, Int.reduceBNe, ne_eq, not_true_eq_false, not_false_eq_true, decide_true, decide_false, List.length_map, Try.ntmps16]
  refine callC_at (valid_ev l hl) ?_
  simp -implicitDefEqProofs (disch := omega) only [go_sem, ↓reduceIte, Nat.reduceEqDiff, Nat.reduceMul, Nat.reduceAdd, Nat.reduceDiv, Nat.reduceBEq, Nat.reduceLeDiff, Int.reduceToNat, Int.reduceNe, Int.reduceEq, Int.reduceLT, Int.reduceLE, Int.reduceBEq, Int.reduceBNe, ne_eq, not_true_eq_false, not_false_eq_true, decide_true, decide_false, List.length_map]
  refine branch_mk (fun hb => ?_) (fun hb => ?_)
  · simp -implicitDefEqProofs (disch := omega) only [go_sem, ↓reduceIte, Nat.reduceEqDiff, Nat.reduceMul, Nat.reduceAdd, Nat.reduceDiv, Nat.reduceBEq, Nat.reduceLeDiff, Int.reduceToNat, Int.reduceNe, Int.reduceEq, Int.reduceLT, Int.reduceLE, Int.reduceBEq, Int.reduceBNe, ne_eq, not_true_eq_false, not_false_eq_true, decide_true, decide_false, List.length_map, Try.results16]
    simp [pairsT, hb]
  · have hb : debtsF l 1000000000 = true := by simpa using hb
    simp -implicitDefEqProofs (disch := omega) only [go_sem, ↓reduceIte, Nat.reduceEqDiff, Nat.reduceMul, Nat.reduceAdd, Nat.reduceDiv, Nat.reduceBEq, Nat.reduceLeDiff, Int.reduceToNat, Int.reduceNe, Int.reduceEq, Int.reduceLT, Int.reduceLE, Int.reduceBEq, Int.reduceBNe, ne_eq, not_true_eq_false, not_false_eq_true, decide_true, decide_false, List.length_map]
    refine callC_at (open_ev l hb) ?_ (h1 := .inl rfl)
    simp -implicitDefEqProofs (disch := omega) only [go_sem, ↓reduceIte, Nat.reduceEqDiff, Nat.reduceMul, Nat.reduceAdd, Nat.reduceDiv, Nat.reduceBEq, Nat.reduceLeDiff, Int.reduceToNat, Int.reduceNe, Int.reduceEq, Int.reduceLT, Int.reduceLE, Int.reduceBEq, Int.reduceBNe, ne_eq, not_true_eq_false, not_false_eq_true, decide_true, decide_false, List.length_map]
    have h := list_ev (bookF l) (bookF_length l) (book_dia l)
    rw [book_pairs l hb] at h
    have hlen := pairsF_length l
    rw [pairsT, if_pos hb]
    generalize pairsF l = p at h hlen
    refine callC_at h ?_
    simp -implicitDefEqProofs (disch := omega) only [go_sem, ↓reduceIte, Nat.reduceEqDiff, Nat.reduceMul, Nat.reduceAdd, Nat.reduceDiv, Nat.reduceBEq, Nat.reduceLeDiff, Int.reduceToNat, Int.reduceNe, Int.reduceEq, Int.reduceLT, Int.reduceLE, Int.reduceBEq, Int.reduceBNe, ne_eq, not_true_eq_false, not_false_eq_true, decide_true, decide_false, List.length_map, Try.results16]
theorem PairsR_ev (l : List Deb) (hl : l.length ≤ 9223372036854775807) : Ev Try.prog 17 [DL l] (pairsT l) := by
  refine ev_of Try.func17 rfl (by kernel_rfl) mo (Nat.le_of_ble_eq_true rfl) ?_
  simp -implicitDefEqProofs (disch := omega) only [go_sem, ↓reduceIte, Nat.reduceEqDiff, Nat.reduceMul, Nat.reduceAdd, Nat.reduceDiv, Nat.reduceBEq, Nat.reduceLeDiff, Int.reduceToNat, Int.reduceNe, Int.reduceEq, Int.reduceLT, Int.reduceLE, Int.reduceBEq, Int.reduceBNe, ne_eq, not_true_eq_false, not_false_eq_true, decide_true, decide_false, List.length_map, Try.ntmps17]
  refine callC_at (validR_ev l hl) ?_
  simp -implicitDefEqProofs (disch := omega) only [go_sem, ↓reduceIte, Nat.reduceEqDiff, Nat.reduceMul, Nat.reduceAdd, Nat.reduceDiv, Nat.reduceBEq, Nat.reduceLeDiff, Int.reduceToNat, Int.reduceNe, Int.reduceEq, Int.reduceLT, Int.reduceLE, Int.reduceBEq, Int.reduceBNe, ne_eq, not_true_eq_false, not_false_eq_true, decide_true, decide_false, List.length_map]
  refine branch_mk (fun hb => ?_) (fun hb => ?_)
  · simp -implicitDefEqProofs (disch := omega) only [go_sem, ↓reduceIte, Nat.reduceEqDiff, Nat.reduceMul, Nat.reduceAdd, Nat.reduceDiv, Nat.reduceBEq, Nat.reduceLeDiff, Int.reduceToNat, Int.reduceNe, Int.reduceEq, Int.reduceLT, Int.reduceLE, Int.reduceBEq, Int.reduceBNe, ne_eq, not_true_eq_false, not_false_eq_true, decide_true, decide_false, List.length_map, Try.results17]
    simp [pairsT, hb]
  · have hb : debtsF l 1000000000 = true := by simpa using hb
    simp -implicitDefEqProofs (disch := omega) only [go_sem, ↓reduceIte, Nat.reduceEqDiff, Nat.reduceMul, Nat.reduceAdd, Nat.reduceDiv, Nat.reduceBEq, Nat.reduceLeDiff, Int.reduceToNat, Int.reduceNe, Int.reduceEq, Int.reduceLT, Int.reduceLE, Int.reduceBEq, Int.reduceBNe, ne_eq, not_true_eq_false, not_false_eq_true, decide_true, decide_false, List.length_map]
    have h := pairsR_ev l hl
    have hlen := pairsF_length l
    rw [pairsT, if_pos hb]
    generalize pairsF l = p at h hlen
    refine callC_at h ?_
    simp -implicitDefEqProofs (disch := omega) only [go_sem, ↓reduceIte, Nat.reduceEqDiff, Nat.reduceMul, Nat.reduceAdd, Nat.reduceDiv, Nat.reduceBEq, Nat.reduceLeDiff, Int.reduceToNat, Int.reduceNe, Int.reduceEq, Int.reduceLT, Int.reduceLE, Int.reduceBEq, Int.reduceBNe, ne_eq, not_true_eq_false, not_false_eq_true, decide_true, decide_false, List.length_map, Try.results17]
end Go.Proofs.Ytjbgckjcbmmobaa

/- The contracts of chapter 39: debts that integers determine. -/
set_option maxRecDepth 100000
set_option linter.unusedSimpArgs false
namespace Go.Proofs.Ytjbgckjcbmmobaa
open Go.Vai Go Go.Proofs

theorem made_ev (x : List Deb) (hl : x.length ≤ 9223372036854775807) (hx : ∀ y ∈ x, R64 y.1 ∧ R64 y.2.1 ∧ R64 y.2.2) : Ev Try.prog 12 [DL x] (.new 47 3 ((madeF x).map DP)) := by
  refine ev_of Try.func12 rfl (by kernel_rfl) mo (Nat.le_of_ble_eq_true rfl) ?_
  simp -implicitDefEqProofs (disch := omega) only [go_sem, ↓reduceIte, Nat.reduceEqDiff, Nat.reduceMul, Nat.reduceAdd, Nat.reduceDiv, Nat.reduceBEq, Nat.reduceLeDiff, Int.reduceToNat, Int.reduceNe, Int.reduceEq, Int.reduceLT, Int.reduceLE, Int.reduceBEq, Int.reduceBNe, ne_eq, not_true_eq_false, not_false_eq_true, decide_true, decide_false, List.length_map, Try.ntmps12]
  refine loopC_mk (fun n E σ => ∃ v : Nat, v + n = 20 ∧ v ≤ x.length ∧ E 0 = DL x ∧ E 4 = I v ∧ E 3 = .own 27263024 3 0 v ∧ σ 27263024 = some ⟨47, 3, ((x.take v).map madeD).map DP⟩) 20 ⟨0, by omega, by omega, ?_⟩ ?_
  · simp -implicitDefEqProofs (disch := omega) only [go_sem, ↓reduceIte, Nat.reduceEqDiff, Nat.reduceMul, Nat.reduceAdd, Nat.reduceDiv, Nat.reduceBEq, Nat.reduceLeDiff, Int.reduceToNat, Int.reduceNe, Int.reduceEq, Int.reduceLT, Int.reduceLE, Int.reduceBEq, Int.reduceBNe, ne_eq, not_true_eq_false, not_false_eq_true, decide_true, decide_false, List.length_map]
    simp
  · rintro n E σ ⟨v, hv, hvx, h0, h4, h3, hs⟩
    simp -implicitDefEqProofs (disch := omega) only [go_sem, ↓reduceIte, Nat.reduceEqDiff, Nat.reduceMul, Nat.reduceAdd, Nat.reduceDiv, Nat.reduceBEq, Nat.reduceLeDiff, Int.reduceToNat, Int.reduceNe, Int.reduceEq, Int.reduceLT, Int.reduceLE, Int.reduceBEq, Int.reduceBNe, ne_eq, not_true_eq_false, not_false_eq_true, decide_true, decide_false, List.length_map, h0, h4, h3, hs]
    have hlen : (x.take v).length = v := by simp; omega
    have hend : ¬ (v < x.length ∧ v < 20) → x.take v = x.take 20 := fun h => by
      by_cases e : v = 20
      · rw [e]
      · rw [List.take_of_length_le (by omega), List.take_of_length_le (by omega)]
    refine branch_mk (fun hc => ?_) (fun hc => ?_)
    · simp -implicitDefEqProofs (disch := omega) only [go_sem, ↓reduceIte, Nat.reduceEqDiff, Nat.reduceMul, Nat.reduceAdd, Nat.reduceDiv, Nat.reduceBEq, Nat.reduceLeDiff, Int.reduceToNat, Int.reduceNe, Int.reduceEq, Int.reduceLT, Int.reduceLE, Int.reduceBEq, Int.reduceBNe, ne_eq, not_true_eq_false, not_false_eq_true, decide_true, decide_false, List.length_map, h0, h4, h3, hs]
      refine branch_mk (fun hc2 => ?_) (fun hc2 => ?_)
      · have hr := hx _ (gd_mem x v (by omega))
        have p1 := pickF_in (c := (gd x v).1) (n := 8) (by omega)
        have p2 := pickF_in (c := (gd x v).2.1) (n := 7) (by omega)
        have p3 := pickF_in (c := (gd x v).2.2) (n := 12) (by omega)
        have p4 := pickF_in (c := (gd x v).2.2) (n := 1000000000) (by omega)
        simp -implicitDefEqProofs (disch := omega) only [go_sem, ↓reduceIte, Nat.reduceEqDiff, Nat.reduceMul, Nat.reduceAdd, Nat.reduceDiv, Nat.reduceBEq, Nat.reduceLeDiff, Int.reduceToNat, Int.reduceNe, Int.reduceEq, Int.reduceLT, Int.reduceLE, Int.reduceBEq, Int.reduceBNe, ne_eq, not_true_eq_false, not_false_eq_true, decide_true, decide_false, List.length_map, h0, h4, h3, hs]
        refine callC_at (pickR_ev _ _ hr.1 (by decide)) ?_
        simp -implicitDefEqProofs (disch := omega) only [go_sem, ↓reduceIte, Nat.reduceEqDiff, Nat.reduceMul, Nat.reduceAdd, Nat.reduceDiv, Nat.reduceBEq, Nat.reduceLeDiff, Int.reduceToNat, Int.reduceNe, Int.reduceEq, Int.reduceLT, Int.reduceLE, Int.reduceBEq, Int.reduceBNe, ne_eq, not_true_eq_false, not_false_eq_true, decide_true, decide_false, List.length_map, h0, h4, h3, hs]
        refine callC_at (pickR_ev _ _ hr.2.2 (by decide)) ?_
        simp -implicitDefEqProofs (disch := omega) only [go_sem, ↓reduceIte, Nat.reduceEqDiff, Nat.reduceMul, Nat.reduceAdd, Nat.reduceDiv, Nat.reduceBEq, Nat.reduceLeDiff, Int.reduceToNat, Int.reduceNe, Int.reduceEq, Int.reduceLT, Int.reduceLE, Int.reduceBEq, Int.reduceBNe, ne_eq, not_true_eq_false, not_false_eq_true, decide_true, decide_false, List.length_map, h0, h4, h3, hs]
        refine callC_at (pickR_ev _ _ hr.2.1 (by decide)) ?_
        simp -implicitDefEqProofs (disch := omega) only [go_sem, ↓reduceIte, Nat.reduceEqDiff, Nat.reduceMul, Nat.reduceAdd, Nat.reduceDiv, Nat.reduceBEq, Nat.reduceLeDiff, Int.reduceToNat, Int.reduceNe, Int.reduceEq, Int.reduceLT, Int.reduceLE, Int.reduceBEq, Int.reduceBNe, ne_eq, not_true_eq_false, not_false_eq_true, decide_true, decide_false, List.length_map, h0, h4, h3, hs, false_and, and_self, ite_false]
        refine callC_at (pickR_ev _ _ hr.2.2 (by decide)) ?_
        simp -implicitDefEqProofs (disch := omega) only [go_sem, ↓reduceIte, Nat.reduceEqDiff, Nat.reduceMul, Nat.reduceAdd, Nat.reduceDiv, Nat.reduceBEq, Nat.reduceLeDiff, Int.reduceToNat, Int.reduceNe, Int.reduceEq, Int.reduceLT, Int.reduceLE, Int.reduceBEq, Int.reduceBNe, ne_eq, not_true_eq_false, not_false_eq_true, decide_true, decide_false, List.length_map, h0, h4, h3, hs, false_and, and_self, ite_false]
        refine branch_mk (fun hb => ?_) (fun hb => ?_)
        · simp -implicitDefEqProofs (disch := omega) only [go_sem, ↓reduceIte, Nat.reduceEqDiff, Nat.reduceMul, Nat.reduceAdd, Nat.reduceDiv, Nat.reduceBEq, Nat.reduceLeDiff, Int.reduceToNat, Int.reduceNe, Int.reduceEq, Int.reduceLT, Int.reduceLE, Int.reduceBEq, Int.reduceBNe, ne_eq, not_true_eq_false, not_false_eq_true, decide_true, decide_false, List.length_map, h0, h4, h3, hs, false_and, and_self, ite_false]
          refine callC_at (pickR_ev _ _ hr.2.2 (by decide)) ?_
          simp -implicitDefEqProofs (disch := omega) only [go_sem, ↓reduceIte, Nat.reduceEqDiff, Nat.reduceMul, Nat.reduceAdd, Nat.reduceDiv, Nat.reduceBEq, Nat.reduceLeDiff, Int.reduceToNat, Int.reduceNe, Int.reduceEq, Int.reduceLT, Int.reduceLE, Int.reduceBEq, Int.reduceBNe, ne_eq, not_true_eq_false, not_false_eq_true, decide_true, decide_false, List.length_map, h0, h4, h3, hs, false_and, and_self, ite_false]
          refine againQ_mk (n - 1) (by omega) ⟨v + 1, by omega, by omega, ?_⟩
          have em := madeF_succ x v (by omega)
          have ea : madeA (gd x v) = 1 + pickF (gd x v).2.2 1000000000 := by rw [madeA, if_pos hb]
          simp -implicitDefEqProofs (disch := omega) only [go_sem, ↓reduceIte, Nat.reduceEqDiff, Nat.reduceMul, Nat.reduceAdd, Nat.reduceDiv, Nat.reduceBEq, Nat.reduceLeDiff, Int.reduceToNat, Int.reduceNe, Int.reduceEq, Int.reduceLT, Int.reduceLE, Int.reduceBEq, Int.reduceBNe, ne_eq, not_true_eq_false, not_false_eq_true, decide_true, decide_false, List.length_map, h0, h4, h3, hs, em, madeD, ea]
          simp
        · simp -implicitDefEqProofs (disch := omega) only [go_sem, ↓reduceIte, Nat.reduceEqDiff, Nat.reduceMul, Nat.reduceAdd, Nat.reduceDiv, Nat.reduceBEq, Nat.reduceLeDiff, Int.reduceToNat, Int.reduceNe, Int.reduceEq, Int.reduceLT, Int.reduceLE, Int.reduceBEq, Int.reduceBNe, ne_eq, not_true_eq_false, not_false_eq_true, decide_true, decide_false, List.length_map, h0, h4, h3, hs, false_and, and_self, ite_false]
          refine againQ_mk (n - 1) (by omega) ⟨v + 1, by omega, by omega, ?_⟩
          have em := madeF_succ x v (by omega)
          have ea : madeA (gd x v) = 1 + pickF (gd x v).2.2 12 := by rw [madeA, if_neg hb]
          simp -implicitDefEqProofs (disch := omega) only [go_sem, ↓reduceIte, Nat.reduceEqDiff, Nat.reduceMul, Nat.reduceAdd, Nat.reduceDiv, Nat.reduceBEq, Nat.reduceLeDiff, Int.reduceToNat, Int.reduceNe, Int.reduceEq, Int.reduceLT, Int.reduceLE, Int.reduceBEq, Int.reduceBNe, ne_eq, not_true_eq_false, not_false_eq_true, decide_true, decide_false, List.length_map, h0, h4, h3, hs, em, madeD, ea]
          simp
      · have e : ((x.take v).map madeD) = madeF x := by rw [hend (by omega)]; rfl
        have el : (madeF x).length = v := by rw [← e]; simp; omega
        rw [e] at hs
        simp -implicitDefEqProofs (disch := omega) only [go_sem, ↓reduceIte, Nat.reduceEqDiff, Nat.reduceMul, Nat.reduceAdd, Nat.reduceDiv, Nat.reduceBEq, Nat.reduceLeDiff, Int.reduceToNat, Int.reduceNe, Int.reduceEq, Int.reduceLT, Int.reduceLE, Int.reduceBEq, Int.reduceBNe, ne_eq, not_true_eq_false, not_false_eq_true, decide_true, decide_false, List.length_map, h0, h4, h3, hs, el, Try.results12]
    · have e : ((x.take v).map madeD) = madeF x := by rw [hend (by omega)]; rfl
      have el : (madeF x).length = v := by rw [← e]; simp; omega
      rw [e] at hs
      simp -implicitDefEqProofs (disch := omega) only [go_sem, ↓reduceIte, Nat.reduceEqDiff, Nat.reduceMul, Nat.reduceAdd, Nat.reduceDiv, Nat.reduceBEq, Nat.reduceLeDiff, Int.reduceToNat, Int.reduceNe, Int.reduceEq, Int.reduceLT, Int.reduceLE, Int.reduceBEq, Int.reduceBNe, ne_eq, not_true_eq_false, not_false_eq_true, decide_true, decide_false, List.length_map, h0, h4, h3, hs, el, Try.results12]
end Go.Proofs.Ytjbgckjcbmmobaa

/- The contracts of chapter 39: balances that integers determine. -/
set_option maxRecDepth 100000
set_option linter.unusedSimpArgs false
namespace Go.Proofs.Ytjbgckjcbmmobaa
open Go.Vai Go Go.Proofs

theorem even_ev (x : List Int) (hl : x.length ≤ 9223372036854775807) (hx : ∀ a ∈ x, R64 a) : Ev Try.prog 26 [SL x] (.new 3 1 ((evenF x).map I)) := by
  refine ev_of Try.func26 rfl (by kernel_rfl) mo (Nat.le_of_ble_eq_true rfl) ?_
  simp -implicitDefEqProofs (disch := omega) only [go_sem, ↓reduceIte, Nat.reduceEqDiff, Nat.reduceMul, Nat.reduceAdd, Nat.reduceDiv, Nat.reduceBEq, Nat.reduceLeDiff, Int.reduceToNat, Int.reduceNe, Int.reduceEq, Int.reduceLT, Int.reduceLE, Int.reduceBEq, Int.reduceBNe, ne_eq, not_true_eq_false, not_false_eq_true, decide_true, decide_false, List.length_map, Try.ntmps26]
  have second : ∀ (B : (Exit → Env → Store → Prop) → Env → Store → Prop) (Q : Exit → Env → Store → Prop) (E : Env) (σ : Store) (q : List Int), q.length = 8 → (∀ i, i < 7 → gd q i = evenI x i) → gd q 7 = 0 → E 3 = .own 56623200 1 0 8 → E 5 = I 0 → σ 56623200 = some ⟨3, 1, q.map I⟩ →
      (∀ n E σ, (∃ (v : Nat) (q : List Int), v + n = 7 ∧ q.length = 8 ∧ (∀ i, i < 7 → gd q i = evenI x i) ∧ gd q 7 = lastN x v ∧ E 3 = .own 56623200 1 0 8 ∧ E 5 = I v ∧ σ 56623200 = some ⟨3, 1, q.map I⟩) → B (thenQ (againQ (fun n E σ => ∃ (v : Nat) (q : List Int), v + n = 7 ∧ q.length = 8 ∧ (∀ i, i < 7 → gd q i = evenI x i) ∧ gd q 7 = lastN x v ∧ E 3 = .own 56623200 1 0 8 ∧ E 5 = I v ∧ σ 56623200 = some ⟨3, 1, q.map I⟩) n) Q) E σ) → loopC B Q E σ := by
    intro B Q E σ q h1 h2 h3 h4 h5 h6 hB
    exact loopC_mk _ 7 ⟨0, q, by omega, h1, h2, h3, h4, h5, h6⟩ hB
  refine loopC_mk (fun n E σ => ∃ (v : Nat) (q : List Int), v + n = 7 ∧ v ≤ x.length ∧ q.length = 8 ∧ (∀ i, i < 8 → gd q i = if i < v then evenA (gd x i) else 0) ∧ E 0 = SL x ∧ E 3 = .own 56623200 1 0 8 ∧ E 4 = I v ∧ σ 56623200 = some ⟨3, 1, q.map I⟩) 7 ⟨0, [0, 0, 0, 0, 0, 0, 0, 0], by omega, by omega, rfl, ?_, ?_⟩ ?_
  · intro i hi
    have : i = 0 ∨ i = 1 ∨ i = 2 ∨ i = 3 ∨ i = 4 ∨ i = 5 ∨ i = 6 ∨ i = 7 := by omega
    rcases this with rfl | rfl | rfl | rfl | rfl | rfl | rfl | rfl <;> rfl
  · simp -implicitDefEqProofs (disch := omega) only [go_sem, ↓reduceIte, Nat.reduceEqDiff, Nat.reduceMul, Nat.reduceAdd, Nat.reduceDiv, Nat.reduceBEq, Nat.reduceLeDiff, Int.reduceToNat, Int.reduceNe, Int.reduceEq, Int.reduceLT, Int.reduceLE, Int.reduceBEq, Int.reduceBNe, ne_eq, not_true_eq_false, not_false_eq_true, decide_true, decide_false, List.length_map]
    simp
  · rintro n E σ ⟨v, q, hv, hvx, hq, hall, h0, h3, h4, hs⟩
    simp -implicitDefEqProofs (disch := omega) only [go_sem, ↓reduceIte, Nat.reduceEqDiff, Nat.reduceMul, Nat.reduceAdd, Nat.reduceDiv, Nat.reduceBEq, Nat.reduceLeDiff, Int.reduceToNat, Int.reduceNe, Int.reduceEq, Int.reduceLT, Int.reduceLE, Int.reduceBEq, Int.reduceBNe, ne_eq, not_true_eq_false, not_false_eq_true, decide_true, decide_false, List.length_map, h0, h3, h4, hs]
    by_cases hcc : v < x.length ∧ v < 7
    · refine branch_mk (fun hc => ?_) (fun hc => absurd hcc.1 (by omega))
      simp -implicitDefEqProofs (disch := omega) only [go_sem, ↓reduceIte, Nat.reduceEqDiff, Nat.reduceMul, Nat.reduceAdd, Nat.reduceDiv, Nat.reduceBEq, Nat.reduceLeDiff, Int.reduceToNat, Int.reduceNe, Int.reduceEq, Int.reduceLT, Int.reduceLE, Int.reduceBEq, Int.reduceBNe, ne_eq, not_true_eq_false, not_false_eq_true, decide_true, decide_false, List.length_map, h0, h3, h4, hs]
      refine branch_mk (fun hc2 => ?_) (fun hc2 => absurd hcc.2 (by omega))
      have hr := hx _ (gd_mem x v (by omega))
      have p1 := pickF_in (c := gd x v) (n := 13) (by omega)
      simp -implicitDefEqProofs (disch := omega) only [go_sem, ↓reduceIte, Nat.reduceEqDiff, Nat.reduceMul, Nat.reduceAdd, Nat.reduceDiv, Nat.reduceBEq, Nat.reduceLeDiff, Int.reduceToNat, Int.reduceNe, Int.reduceEq, Int.reduceLT, Int.reduceLE, Int.reduceBEq, Int.reduceBNe, ne_eq, not_true_eq_false, not_false_eq_true, decide_true, decide_false, List.length_map, h0, h3, h4, hs, hq]
      refine callC_at (pickR_ev _ _ hr (by decide)) ?_
      simp -implicitDefEqProofs (disch := omega) only [go_sem, ↓reduceIte, Nat.reduceEqDiff, Nat.reduceMul, Nat.reduceAdd, Nat.reduceDiv, Nat.reduceBEq, Nat.reduceLeDiff, Int.reduceToNat, Int.reduceNe, Int.reduceEq, Int.reduceLT, Int.reduceLE, Int.reduceBEq, Int.reduceBNe, ne_eq, not_true_eq_false, not_false_eq_true, decide_true, decide_false, List.length_map, h0, h3, h4, hs, hq]
      refine callC_at (pickR_ev _ _ hr (by decide)) ?_
      simp -implicitDefEqProofs (disch := omega) only [go_sem, ↓reduceIte, Nat.reduceEqDiff, Nat.reduceMul, Nat.reduceAdd, Nat.reduceDiv, Nat.reduceBEq, Nat.reduceLeDiff, Int.reduceToNat, Int.reduceNe, Int.reduceEq, Int.reduceLT, Int.reduceLE, Int.reduceBEq, Int.reduceBNe, ne_eq, not_true_eq_false, not_false_eq_true, decide_true, decide_false, List.length_map, h0, h3, h4, hs, hq]
      have hset : ∀ i, i < 8 → gd (q.set v (evenA (gd x v))) i = if i < v + 1 then evenA (gd x i) else 0 := fun i hi => by
        rw [gd_set _ _ _ _ (by omega)]
        by_cases e : i = v
        · subst e; simp
        · rw [if_neg e, hall i hi]
          simp only [show i < v ↔ i < v + 1 from by omega]
      refine branch_mk (fun hb => ?_) (fun hb => ?_)
      · simp -implicitDefEqProofs (disch := omega) only [go_sem, ↓reduceIte, Nat.reduceEqDiff, Nat.reduceMul, Nat.reduceAdd, Nat.reduceDiv, Nat.reduceBEq, Nat.reduceLeDiff, Int.reduceToNat, Int.reduceNe, Int.reduceEq, Int.reduceLT, Int.reduceLE, Int.reduceBEq, Int.reduceBNe, ne_eq, not_true_eq_false, not_false_eq_true, decide_true, decide_false, List.length_map, h0, h3, h4, hs, hq]
        refine callC_at (pickR_ev _ _ hr (by decide)) ?_
        simp -implicitDefEqProofs (disch := omega) only [go_sem, ↓reduceIte, Nat.reduceEqDiff, Nat.reduceMul, Nat.reduceAdd, Nat.reduceDiv, Nat.reduceBEq, Nat.reduceLeDiff, Int.reduceToNat, Int.reduceNe, Int.reduceEq, Int.reduceLT, Int.reduceLE, Int.reduceBEq, Int.reduceBNe, ne_eq, not_true_eq_false, not_false_eq_true, decide_true, decide_false, List.length_map, h0, h3, h4, hs, hq]
        refine againQ_mk (n - 1) (by omega) ⟨v + 1, q.set v (evenA (gd x v)), by omega, by omega, by simpa using hq, hset, ?_⟩
        have ea : evenA (gd x v) = pickF (gd x v) 100000000000 := by rw [evenA, if_pos hb]
        simp -implicitDefEqProofs (disch := omega) only [go_sem, ↓reduceIte, Nat.reduceEqDiff, Nat.reduceMul, Nat.reduceAdd, Nat.reduceDiv, Nat.reduceBEq, Nat.reduceLeDiff, Int.reduceToNat, Int.reduceNe, Int.reduceEq, Int.reduceLT, Int.reduceLE, Int.reduceBEq, Int.reduceBNe, ne_eq, not_true_eq_false, not_false_eq_true, decide_true, decide_false, List.length_map, h0, h3, h4, hs, hq, ea]
        simp
      · simp -implicitDefEqProofs (disch := omega) only [go_sem, ↓reduceIte, Nat.reduceEqDiff, Nat.reduceMul, Nat.reduceAdd, Nat.reduceDiv, Nat.reduceBEq, Nat.reduceLeDiff, Int.reduceToNat, Int.reduceNe, Int.reduceEq, Int.reduceLT, Int.reduceLE, Int.reduceBEq, Int.reduceBNe, ne_eq, not_true_eq_false, not_false_eq_true, decide_true, decide_false, List.length_map, h0, h3, h4, hs, hq]
        refine againQ_mk (n - 1) (by omega) ⟨v + 1, q.set v (evenA (gd x v)), by omega, by omega, by simpa using hq, hset, ?_⟩
        have ea : evenA (gd x v) = pickF (gd x v) 13 - 6 := by rw [evenA, if_neg hb]
        simp -implicitDefEqProofs (disch := omega) only [go_sem, ↓reduceIte, Nat.reduceEqDiff, Nat.reduceMul, Nat.reduceAdd, Nat.reduceDiv, Nat.reduceBEq, Nat.reduceLeDiff, Int.reduceToNat, Int.reduceNe, Int.reduceEq, Int.reduceLT, Int.reduceLE, Int.reduceBEq, Int.reduceBNe, ne_eq, not_true_eq_false, not_false_eq_true, decide_true, decide_false, List.length_map, h0, h3, h4, hs, hq, ea]
        simp
    · refine branch_mk (fun hc => ?_) (fun hc => ?_)
      all_goals
        simp -implicitDefEqProofs (disch := omega) only [go_sem, ↓reduceIte, Nat.reduceEqDiff, Nat.reduceMul, Nat.reduceAdd, Nat.reduceDiv, Nat.reduceBEq, Nat.reduceLeDiff, Int.reduceToNat, Int.reduceNe, Int.reduceEq, Int.reduceLT, Int.reduceLE, Int.reduceBEq, Int.reduceBNe, ne_eq, not_true_eq_false, not_false_eq_true, decide_true, decide_false, List.length_map, h0, h3, h4, hs]
        try refine branch_mk (fun hc2 => absurd ⟨by omega, by omega⟩ hcc) (fun hc2 => ?_)
        have hq7 : ∀ i, i < 7 → gd q i = evenI x i := fun i hi => by
          rw [hall i (by omega), evenI]
          by_cases e : i < x.length
          · rw [if_pos e, if_pos (by omega)]
          · rw [if_neg e, if_neg (by omega)]
        have h7 : gd q 7 = 0 := by rw [hall 7 (by omega), if_neg (by omega)]
        try simp -implicitDefEqProofs (disch := omega) only [go_sem, ↓reduceIte, Nat.reduceEqDiff, Nat.reduceMul, Nat.reduceAdd, Nat.reduceDiv, Nat.reduceBEq, Nat.reduceLeDiff, Int.reduceToNat, Int.reduceNe, Int.reduceEq, Int.reduceLT, Int.reduceLE, Int.reduceBEq, Int.reduceBNe, ne_eq, not_true_eq_false, not_false_eq_true, decide_true, decide_false, List.length_map, h0, h3, h4, hs]
        refine second _ _ _ _ q hq hq7 h7 ?_ ?_ ?_ ?_
        · simp -implicitDefEqProofs (disch := omega) only [go_sem, ↓reduceIte, Nat.reduceEqDiff, Nat.reduceMul, Nat.reduceAdd, Nat.reduceDiv, Nat.reduceBEq, Nat.reduceLeDiff, Int.reduceToNat, Int.reduceNe, Int.reduceEq, Int.reduceLT, Int.reduceLE, Int.reduceBEq, Int.reduceBNe, ne_eq, not_true_eq_false, not_false_eq_true, decide_true, decide_false, List.length_map, h0, h3, h4, hs]
        · simp -implicitDefEqProofs (disch := omega) only [go_sem, ↓reduceIte, Nat.reduceEqDiff, Nat.reduceMul, Nat.reduceAdd, Nat.reduceDiv, Nat.reduceBEq, Nat.reduceLeDiff, Int.reduceToNat, Int.reduceNe, Int.reduceEq, Int.reduceLT, Int.reduceLE, Int.reduceBEq, Int.reduceBNe, ne_eq, not_true_eq_false, not_false_eq_true, decide_true, decide_false, List.length_map, h0, h3, h4, hs]
        · simp -implicitDefEqProofs (disch := omega) only [go_sem, ↓reduceIte, Nat.reduceEqDiff, Nat.reduceMul, Nat.reduceAdd, Nat.reduceDiv, Nat.reduceBEq, Nat.reduceLeDiff, Int.reduceToNat, Int.reduceNe, Int.reduceEq, Int.reduceLT, Int.reduceLE, Int.reduceBEq, Int.reduceBNe, ne_eq, not_true_eq_false, not_false_eq_true, decide_true, decide_false, List.length_map, h0, h3, h4, hs]
        · clear hc h0 h3 h4 hs hq hall hq7 h7 hcc hvx hv E σ n
          rintro n E σ ⟨w, q, hw, hq, hq7, h7, h3, h5, hs⟩
          simp -implicitDefEqProofs (disch := omega) only [go_sem, ↓reduceIte, Nat.reduceEqDiff, Nat.reduceMul, Nat.reduceAdd, Nat.reduceDiv, Nat.reduceBEq, Nat.reduceLeDiff, Int.reduceToNat, Int.reduceNe, Int.reduceEq, Int.reduceLT, Int.reduceLE, Int.reduceBEq, Int.reduceBNe, ne_eq, not_true_eq_false, not_false_eq_true, decide_true, decide_false, List.length_map, h3, h5, hs]
          refine branch_mk (fun hd => ?_) (fun hd => ?_)
          · have e1 := hq7 w (by omega)
            have hb1 := evenI_in x w
            have hb2 := lastN_in x w
            have hw1 : IntKind.i64.wrap (lastN x w - evenI x w) = lastN x (w + 1) := by rw [wrap64_of (by omega)]; rfl
            simp -implicitDefEqProofs (disch := omega) only [go_sem, ↓reduceIte, Nat.reduceEqDiff, Nat.reduceMul, Nat.reduceAdd, Nat.reduceDiv, Nat.reduceBEq, Nat.reduceLeDiff, Int.reduceToNat, Int.reduceNe, Int.reduceEq, Int.reduceLT, Int.reduceLE, Int.reduceBEq, Int.reduceBNe, ne_eq, not_true_eq_false, not_false_eq_true, decide_true, decide_false, List.length_map, h3, h5, hs, hq, e1, h7, hw1]
            refine againQ_mk (n - 1) (by omega) ⟨w + 1, q.set 7 (lastN x (w + 1)), by omega, by simpa using hq, fun i hi => ?_, ?_, ?_⟩
            · rw [gd_set _ _ _ _ (by omega), if_neg (by omega), hq7 i hi]
            · rw [gd_set _ _ _ _ (by omega), if_pos rfl]
            · simp -implicitDefEqProofs (disch := omega) only [go_sem, ↓reduceIte, Nat.reduceEqDiff, Nat.reduceMul, Nat.reduceAdd, Nat.reduceDiv, Nat.reduceBEq, Nat.reduceLeDiff, Int.reduceToNat, Int.reduceNe, Int.reduceEq, Int.reduceLT, Int.reduceLE, Int.reduceBEq, Int.reduceBNe, ne_eq, not_true_eq_false, not_false_eq_true, decide_true, decide_false, List.length_map, h3, h5, hs, hq]
              simp
          · have e : q = evenF x := evenF_of x q hq hq7 (by rw [h7, show w = 7 from by omega])
            have el : (evenF x).take 8 = evenF x := rfl
            subst e
            simp -implicitDefEqProofs (disch := omega) only [go_sem, ↓reduceIte, Nat.reduceEqDiff, Nat.reduceMul, Nat.reduceAdd, Nat.reduceDiv, Nat.reduceBEq, Nat.reduceLeDiff, Int.reduceToNat, Int.reduceNe, Int.reduceEq, Int.reduceLT, Int.reduceLE, Int.reduceBEq, Int.reduceBNe, ne_eq, not_true_eq_false, not_false_eq_true, decide_true, decide_false, List.length_map, h3, h5, hs, el, Try.results26]
end Go.Proofs.Ytjbgckjcbmmobaa

/- The contracts of chapter 39: a list is cloned; numbers with something changed. -/
set_option maxRecDepth 100000
set_option linter.unusedSimpArgs false
namespace Go.Proofs.Ytjbgckjcbmmobaa
open Go.Vai Go Go.Proofs

theorem clone_ev (l : List Int) (h0 : 0 < l.length) (hl : l.length ≤ 1000000) : Ev Try.prog 49 [SL l] (.new 3 1 (l.map I)) := by
  refine ev_of Try.func49 rfl (by kernel_rfl) mo (Nat.le_of_ble_eq_true rfl) ?_
  simp -implicitDefEqProofs (disch := omega) only [go_sem, ↓reduceIte, Nat.reduceEqDiff, Nat.reduceMul, Nat.reduceAdd, Nat.reduceDiv, Nat.reduceBEq, Nat.reduceLeDiff, Int.reduceToNat, Int.reduceNe, Int.reduceEq, Int.reduceLT, Int.reduceLE, Int.reduceBEq, Int.reduceBNe, ne_eq, not_true_eq_false, not_false_eq_true, decide_true, decide_false, List.length_map, Try.ntmps49, Try.results49]
theorem bentList_ev (l : List Int) (how n pos : Int) (hl : 0 < l.length ∧ l.length ≤ 1000000) (h1 : R64 how) (h3 : R64 pos) : Ev Try.prog 27 [SL l, I how, I n, I pos] (.new 3 1 ((bentLF l how n pos).map I)) := by
  have hk := pickF_in (c := pos) (n := l.length) (by omega)
  refine ev_of Try.func27 rfl (by kernel_rfl) mo (Nat.le_of_ble_eq_true rfl) ?_
  simp -implicitDefEqProofs (disch := omega) only [go_sem, ↓reduceIte, Nat.reduceEqDiff, Nat.reduceMul, Nat.reduceAdd, Nat.reduceDiv, Nat.reduceBEq, Nat.reduceLeDiff, Int.reduceToNat, Int.reduceNe, Int.reduceEq, Int.reduceLT, Int.reduceLE, Int.reduceBEq, Int.reduceBNe, ne_eq, not_true_eq_false, not_false_eq_true, decide_true, decide_false, List.length_map, Try.ntmps27]
  refine branch_mk (fun hb => absurd hb (by omega)) (fun hb => ?_)
  simp -implicitDefEqProofs (disch := omega) only [go_sem, ↓reduceIte, Nat.reduceEqDiff, Nat.reduceMul, Nat.reduceAdd, Nat.reduceDiv, Nat.reduceBEq, Nat.reduceLeDiff, Int.reduceToNat, Int.reduceNe, Int.reduceEq, Int.reduceLT, Int.reduceLE, Int.reduceBEq, Int.reduceBNe, ne_eq, not_true_eq_false, not_false_eq_true, decide_true, decide_false, List.length_map]
  refine callC_at (pickR_ev _ _ h3 (by omega)) ?_
  simp -implicitDefEqProofs (disch := omega) only [go_sem, ↓reduceIte, Nat.reduceEqDiff, Nat.reduceMul, Nat.reduceAdd, Nat.reduceDiv, Nat.reduceBEq, Nat.reduceLeDiff, Int.reduceToNat, Int.reduceNe, Int.reduceEq, Int.reduceLT, Int.reduceLE, Int.reduceBEq, Int.reduceBNe, ne_eq, not_true_eq_false, not_false_eq_true, decide_true, decide_false, List.length_map]
  refine callC_at (pickR_ev _ _ h1 (by decide)) ?_
  simp -implicitDefEqProofs (disch := omega) only [go_sem, ↓reduceIte, Nat.reduceEqDiff, Nat.reduceMul, Nat.reduceAdd, Nat.reduceDiv, Nat.reduceBEq, Nat.reduceLeDiff, Int.reduceToNat, Int.reduceNe, Int.reduceEq, Int.reduceLT, Int.reduceLE, Int.reduceBEq, Int.reduceBNe, ne_eq, not_true_eq_false, not_false_eq_true, decide_true, decide_false, List.length_map]
  unfold bentLF
  refine branch_mk (fun hb => ?_) (fun hb => ?_)
  · rw [if_pos hb]
    simp -implicitDefEqProofs (disch := omega) only [go_sem, ↓reduceIte, Nat.reduceEqDiff, Nat.reduceMul, Nat.reduceAdd, Nat.reduceDiv, Nat.reduceBEq, Nat.reduceLeDiff, Int.reduceToNat, Int.reduceNe, Int.reduceEq, Int.reduceLT, Int.reduceLE, Int.reduceBEq, Int.reduceBNe, ne_eq, not_true_eq_false, not_false_eq_true, decide_true, decide_false, List.length_map, Try.results27]
    rw [List.take_of_length_le (by simp)]
  · rw [if_neg hb]
    simp -implicitDefEqProofs (disch := omega) only [go_sem, ↓reduceIte, Nat.reduceEqDiff, Nat.reduceMul, Nat.reduceAdd, Nat.reduceDiv, Nat.reduceBEq, Nat.reduceLeDiff, Int.reduceToNat, Int.reduceNe, Int.reduceEq, Int.reduceLT, Int.reduceLE, Int.reduceBEq, Int.reduceBNe, ne_eq, not_true_eq_false, not_false_eq_true, decide_true, decide_false, List.length_map]
    refine branch_mk (fun hb => ?_) (fun hb => ?_)
    · rw [if_pos hb]
      simp -implicitDefEqProofs (disch := omega) only [go_sem, ↓reduceIte, Nat.reduceEqDiff, Nat.reduceMul, Nat.reduceAdd, Nat.reduceDiv, Nat.reduceBEq, Nat.reduceLeDiff, Int.reduceToNat, Int.reduceNe, Int.reduceEq, Int.reduceLT, Int.reduceLE, Int.reduceBEq, Int.reduceBNe, ne_eq, not_true_eq_false, not_false_eq_true, decide_true, decide_false, List.length_map, Try.results27]
      rw [List.take_of_length_le (by simp)]
    · rw [if_neg hb]
      simp -implicitDefEqProofs (disch := omega) only [go_sem, ↓reduceIte, Nat.reduceEqDiff, Nat.reduceMul, Nat.reduceAdd, Nat.reduceDiv, Nat.reduceBEq, Nat.reduceLeDiff, Int.reduceToNat, Int.reduceNe, Int.reduceEq, Int.reduceLT, Int.reduceLE, Int.reduceBEq, Int.reduceBNe, ne_eq, not_true_eq_false, not_false_eq_true, decide_true, decide_false, List.length_map]
      refine branch_mk (fun hb => ?_) (fun hb => ?_)
      · rw [if_pos hb]
        simp -implicitDefEqProofs (disch := omega) only [go_sem, ↓reduceIte, Nat.reduceEqDiff, Nat.reduceMul, Nat.reduceAdd, Nat.reduceDiv, Nat.reduceBEq, Nat.reduceLeDiff, Int.reduceToNat, Int.reduceNe, Int.reduceEq, Int.reduceLT, Int.reduceLE, Int.reduceBEq, Int.reduceBNe, ne_eq, not_true_eq_false, not_false_eq_true, decide_true, decide_false, List.length_map, Try.results27]
      · rw [if_neg hb]
        simp -implicitDefEqProofs (disch := omega) only [go_sem, ↓reduceIte, Nat.reduceEqDiff, Nat.reduceMul, Nat.reduceAdd, Nat.reduceDiv, Nat.reduceBEq, Nat.reduceLeDiff, Int.reduceToNat, Int.reduceNe, Int.reduceEq, Int.reduceLT, Int.reduceLE, Int.reduceBEq, Int.reduceBNe, ne_eq, not_true_eq_false, not_false_eq_true, decide_true, decide_false, List.length_map, Try.results27]
        rw [Nat.sub_zero]
end Go.Proofs.Ytjbgckjcbmmobaa

/- The contracts of chapter 39: what each carrier gets; names. -/
set_option maxRecDepth 100000
set_option linter.unusedSimpArgs false
namespace Go.Proofs.Ytjbgckjcbmmobaa
open Go.Vai Go Go.Proofs

theorem renamed_ev (c a b : Int) : Ev Try.prog 35 [I c, I a, I b] (I (renamedF c a b)) := by
  refine ev_of Try.func35 rfl (by kernel_rfl) mo (Nat.le_of_ble_eq_true rfl) ?_
  simp -implicitDefEqProofs (disch := omega) only [go_sem, ↓reduceIte, Nat.reduceEqDiff, Nat.reduceMul, Nat.reduceAdd, Nat.reduceDiv, Nat.reduceBEq, Nat.reduceLeDiff, Int.reduceToNat, Int.reduceNe, Int.reduceEq, Int.reduceLT, Int.reduceLE, Int.reduceBEq, Int.reduceBNe, ne_eq, not_true_eq_false, not_false_eq_true, decide_true, decide_false, List.length_map, Try.ntmps35]
  refine branch_mk (fun hb => ?_) (fun hb => ?_)
  · simp -implicitDefEqProofs (disch := omega) only [go_sem, ↓reduceIte, Nat.reduceEqDiff, Nat.reduceMul, Nat.reduceAdd, Nat.reduceDiv, Nat.reduceBEq, Nat.reduceLeDiff, Int.reduceToNat, Int.reduceNe, Int.reduceEq, Int.reduceLT, Int.reduceLE, Int.reduceBEq, Int.reduceBNe, ne_eq, not_true_eq_false, not_false_eq_true, decide_true, decide_false, List.length_map, Try.results35]
    simp [renamedF, hb]
  · simp -implicitDefEqProofs (disch := omega) only [go_sem, ↓reduceIte, Nat.reduceEqDiff, Nat.reduceMul, Nat.reduceAdd, Nat.reduceDiv, Nat.reduceBEq, Nat.reduceLeDiff, Int.reduceToNat, Int.reduceNe, Int.reduceEq, Int.reduceLT, Int.reduceLE, Int.reduceBEq, Int.reduceBNe, ne_eq, not_true_eq_false, not_false_eq_true, decide_true, decide_false, List.length_map]
    refine branch_mk (fun hb2 => ?_) (fun hb2 => ?_)
    · simp -implicitDefEqProofs (disch := omega) only [go_sem, ↓reduceIte, Nat.reduceEqDiff, Nat.reduceMul, Nat.reduceAdd, Nat.reduceDiv, Nat.reduceBEq, Nat.reduceLeDiff, Int.reduceToNat, Int.reduceNe, Int.reduceEq, Int.reduceLT, Int.reduceLE, Int.reduceBEq, Int.reduceBNe, ne_eq, not_true_eq_false, not_false_eq_true, decide_true, decide_false, List.length_map, Try.results35]
      rw [renamedF, if_neg hb, if_pos hb2]
    · simp -implicitDefEqProofs (disch := omega) only [go_sem, ↓reduceIte, Nat.reduceEqDiff, Nat.reduceMul, Nat.reduceAdd, Nat.reduceDiv, Nat.reduceBEq, Nat.reduceLeDiff, Int.reduceToNat, Int.reduceNe, Int.reduceEq, Int.reduceLT, Int.reduceLE, Int.reduceBEq, Int.reduceBNe, ne_eq, not_true_eq_false, not_false_eq_true, decide_true, decide_false, List.length_map, Try.results35]
      rw [renamedF, if_neg hb, if_neg hb2]
theorem net_ev (l : List Deb) (limit : Int) (hl : limit ≤ 1000000000000) (h0 : 0 ≤ limit) (hd : debtsF l limit = true) : Ev Try.prog 33 [DL l] (.new 3 1 ((balF l).map I)) := by
  obtain ⟨g1, g2⟩ := (debtsF_iff l limit).1 hd
  refine ev_of Try.func33 rfl (by kernel_rfl) mo (Nat.le_of_ble_eq_true rfl) ?_
  simp -implicitDefEqProofs (disch := omega) only [go_sem, ↓reduceIte, Nat.reduceEqDiff, Nat.reduceMul, Nat.reduceAdd, Nat.reduceDiv, Nat.reduceBEq, Nat.reduceLeDiff, Int.reduceToNat, Int.reduceNe, Int.reduceEq, Int.reduceLT, Int.reduceLE, Int.reduceBEq, Int.reduceBNe, ne_eq, not_true_eq_false, not_false_eq_true, decide_true, decide_false, List.length_map, Try.ntmps33]
  refine loopC_mk (fun n E σ => ∃ v : Nat, v + n = l.length ∧ E 0 = DL l ∧ E 3 = .own 71303280 1 0 8 ∧ E 4 = I v ∧ σ 71303280 = some ⟨3, 1, (balN l v).map I⟩) l.length ⟨0, by omega, ?_⟩ ?_
  · simp -implicitDefEqProofs (disch := omega) only [go_sem, ↓reduceIte, Nat.reduceEqDiff, Nat.reduceMul, Nat.reduceAdd, Nat.reduceDiv, Nat.reduceBEq, Nat.reduceLeDiff, Int.reduceToNat, Int.reduceNe, Int.reduceEq, Int.reduceLT, Int.reduceLE, Int.reduceBEq, Int.reduceBNe, ne_eq, not_true_eq_false, not_false_eq_true, decide_true, decide_false, List.length_map]
    simp [balN]
  · rintro n E σ ⟨v, hv, h0', h3, h4, hs⟩
    simp -implicitDefEqProofs (disch := omega) only [go_sem, ↓reduceIte, Nat.reduceEqDiff, Nat.reduceMul, Nat.reduceAdd, Nat.reduceDiv, Nat.reduceBEq, Nat.reduceLeDiff, Int.reduceToNat, Int.reduceNe, Int.reduceEq, Int.reduceLT, Int.reduceLE, Int.reduceBEq, Int.reduceBNe, ne_eq, not_true_eq_false, not_false_eq_true, decide_true, decide_false, List.length_map, h0', h3, h4, hs]
    have hlen := balN_length l v
    refine branch_mk (fun hc => ?_) (fun hc => ?_)
    · have hb := g2 v (by omega)
      unfold badF at hb
      obtain ⟨_, _, _, _, w1, w2, w3, w4⟩ := balN_step l g2 h0 hl g1 v (by omega)
      have hlen2 := addF_length (balN l v) (gd l v).2.1 (gd l v).2.2
      have p1 : pickF (gd l v).2.1 8 = (gd l v).2.1 := pickF_id (by omega)
      have p2 : pickF (gd l v).1 8 = (gd l v).1 := pickF_id (by omega)
      have c1 := pick_ev (gd l v).2.1 8 ⟨by omega, by omega⟩ (by decide)
      have c2 := pick_ev (gd l v).1 8 ⟨by omega, by omega⟩ (by decide)
      rw [p1] at c1
      rw [p2] at c2
      simp -implicitDefEqProofs (disch := omega) only [go_sem, ↓reduceIte, Nat.reduceEqDiff, Nat.reduceMul, Nat.reduceAdd, Nat.reduceDiv, Nat.reduceBEq, Nat.reduceLeDiff, Int.reduceToNat, Int.reduceNe, Int.reduceEq, Int.reduceLT, Int.reduceLE, Int.reduceBEq, Int.reduceBNe, ne_eq, not_true_eq_false, not_false_eq_true, decide_true, decide_false, List.length_map, h0', h3, h4, hs]
      refine callC_at c1 ?_
      simp -implicitDefEqProofs (disch := omega) only [go_sem, ↓reduceIte, Nat.reduceEqDiff, Nat.reduceMul, Nat.reduceAdd, Nat.reduceDiv, Nat.reduceBEq, Nat.reduceLeDiff, Int.reduceToNat, Int.reduceNe, Int.reduceEq, Int.reduceLT, Int.reduceLE, Int.reduceBEq, Int.reduceBNe, ne_eq, not_true_eq_false, not_false_eq_true, decide_true, decide_false, List.length_map, h0', h3, h4, hs]
      refine callC_at c2 ?_
      simp -implicitDefEqProofs (disch := omega) only [go_sem, ↓reduceIte, Nat.reduceEqDiff, Nat.reduceMul, Nat.reduceAdd, Nat.reduceDiv, Nat.reduceBEq, Nat.reduceLeDiff, Int.reduceToNat, Int.reduceNe, Int.reduceEq, Int.reduceLT, Int.reduceLE, Int.reduceBEq, Int.reduceBNe, ne_eq, not_true_eq_false, not_false_eq_true, decide_true, decide_false, List.length_map, h0', h3, h4, hs, w1, w2, w3, w4]
      refine againQ_mk (n - 1) (by omega) ⟨v + 1, by omega, ?_⟩
      simp -implicitDefEqProofs (disch := omega) only [go_sem, ↓reduceIte, Nat.reduceEqDiff, Nat.reduceMul, Nat.reduceAdd, Nat.reduceDiv, Nat.reduceBEq, Nat.reduceLeDiff, Int.reduceToNat, Int.reduceNe, Int.reduceEq, Int.reduceLT, Int.reduceLE, Int.reduceBEq, Int.reduceBNe, ne_eq, not_true_eq_false, not_false_eq_true, decide_true, decide_false, List.length_map, h0', h3, h4, hs]
      simp
    · have e : v = l.length := by omega
      subst e
      have e8 : (balN l l.length).take 8 = balF l := List.take_of_length_le (by omega)
      simp -implicitDefEqProofs (disch := omega) only [go_sem, ↓reduceIte, Nat.reduceEqDiff, Nat.reduceMul, Nat.reduceAdd, Nat.reduceDiv, Nat.reduceBEq, Nat.reduceLeDiff, Int.reduceToNat, Int.reduceNe, Int.reduceEq, Int.reduceLT, Int.reduceLE, Int.reduceBEq, Int.reduceBNe, ne_eq, not_true_eq_false, not_false_eq_true, decide_true, decide_false, List.length_map, h0', h3, h4, hs, e8, Try.results33]
end Go.Proofs.Ytjbgckjcbmmobaa

/- The contracts of chapter 39: debts with something changed. -/
set_option maxRecDepth 100000
set_option linter.unusedSimpArgs false
namespace Go.Proofs.Ytjbgckjcbmmobaa
open Go.Vai Go Go.Proofs

@[go_sem] theorem set_debs (l : List Deb) (n : Nat) (a b c : Int) : (l.map DP).set n (.agg [.v (.int .i64 a), .v (.int .i64 b), .v (.int .i64 c)]) = (l.set n (a, b, c)).map DP := by rw [List.map_set]
theorem bent_ev (l : List Deb) (how n pos : Int) (hl : l.length ≤ 1000) (h1 : R64 how) (h2 : R64 n) (h3 : R64 pos) : Ev Try.prog 13 [DL l, I how, I n, I pos] (.new 47 3 ((bentF l how n pos).map DP)) := by
  refine ev_of Try.func13 rfl (by kernel_rfl) mo (Nat.le_of_ble_eq_true rfl) ?_
  simp -implicitDefEqProofs (disch := omega) only [go_sem, ↓reduceIte, Nat.reduceEqDiff, Nat.reduceMul, Nat.reduceAdd, Nat.reduceDiv, Nat.reduceBEq, Nat.reduceLeDiff, Int.reduceToNat, Int.reduceNe, Int.reduceEq, Int.reduceLT, Int.reduceLE, Int.reduceBEq, Int.reduceBNe, ne_eq, not_true_eq_false, not_false_eq_true, decide_true, decide_false, List.length_map, Try.ntmps13]
  unfold bentF
  refine branch_mk (fun hb => ?_) (fun hb => ?_)
  · rw [if_pos (by omega)]
    simp -implicitDefEqProofs (disch := omega) only [go_sem, ↓reduceIte, Nat.reduceEqDiff, Nat.reduceMul, Nat.reduceAdd, Nat.reduceDiv, Nat.reduceBEq, Nat.reduceLeDiff, Int.reduceToNat, Int.reduceNe, Int.reduceEq, Int.reduceLT, Int.reduceLE, Int.reduceBEq, Int.reduceBNe, ne_eq, not_true_eq_false, not_false_eq_true, decide_true, decide_false, List.length_map, Try.results13]
  · rw [if_neg (by omega)]
    have hk := pickF_in (c := pos) (n := l.length) (by omega)
    simp -implicitDefEqProofs (disch := omega) only [go_sem, ↓reduceIte, Nat.reduceEqDiff, Nat.reduceMul, Nat.reduceAdd, Nat.reduceDiv, Nat.reduceBEq, Nat.reduceLeDiff, Int.reduceToNat, Int.reduceNe, Int.reduceEq, Int.reduceLT, Int.reduceLE, Int.reduceBEq, Int.reduceBNe, ne_eq, not_true_eq_false, not_false_eq_true, decide_true, decide_false, List.length_map]
    refine callC_at (pickR_ev _ _ h3 (by omega)) ?_
    simp -implicitDefEqProofs (disch := omega) only [go_sem, ↓reduceIte, Nat.reduceEqDiff, Nat.reduceMul, Nat.reduceAdd, Nat.reduceDiv, Nat.reduceBEq, Nat.reduceLeDiff, Int.reduceToNat, Int.reduceNe, Int.reduceEq, Int.reduceLT, Int.reduceLE, Int.reduceBEq, Int.reduceBNe, ne_eq, not_true_eq_false, not_false_eq_true, decide_true, decide_false, List.length_map]
    refine callC_at (pickR_ev _ _ h1 (by decide)) ?_
    simp -implicitDefEqProofs (disch := omega) only [go_sem, ↓reduceIte, Nat.reduceEqDiff, Nat.reduceMul, Nat.reduceAdd, Nat.reduceDiv, Nat.reduceBEq, Nat.reduceLeDiff, Int.reduceToNat, Int.reduceNe, Int.reduceEq, Int.reduceLT, Int.reduceLE, Int.reduceBEq, Int.reduceBNe, ne_eq, not_true_eq_false, not_false_eq_true, decide_true, decide_false, List.length_map]
    refine branch_mk (fun hb => ?_) (fun hb => ?_)
    · rw [if_pos hb]
      simp -implicitDefEqProofs (disch := omega) only [go_sem, ↓reduceIte, Nat.reduceEqDiff, Nat.reduceMul, Nat.reduceAdd, Nat.reduceDiv, Nat.reduceBEq, Nat.reduceLeDiff, Int.reduceToNat, Int.reduceNe, Int.reduceEq, Int.reduceLT, Int.reduceLE, Int.reduceBEq, Int.reduceBNe, ne_eq, not_true_eq_false, not_false_eq_true, decide_true, decide_false, List.length_map, Try.results13]
      rw [List.take_of_length_le (by simp)]
    · rw [if_neg hb]
      simp -implicitDefEqProofs (disch := omega) only [go_sem, ↓reduceIte, Nat.reduceEqDiff, Nat.reduceMul, Nat.reduceAdd, Nat.reduceDiv, Nat.reduceBEq, Nat.reduceLeDiff, Int.reduceToNat, Int.reduceNe, Int.reduceEq, Int.reduceLT, Int.reduceLE, Int.reduceBEq, Int.reduceBNe, ne_eq, not_true_eq_false, not_false_eq_true, decide_true, decide_false, List.length_map]
      refine branch_mk (fun hb => ?_) (fun hb => ?_)
      · rw [if_pos hb]
        simp -implicitDefEqProofs (disch := omega) only [go_sem, ↓reduceIte, Nat.reduceEqDiff, Nat.reduceMul, Nat.reduceAdd, Nat.reduceDiv, Nat.reduceBEq, Nat.reduceLeDiff, Int.reduceToNat, Int.reduceNe, Int.reduceEq, Int.reduceLT, Int.reduceLE, Int.reduceBEq, Int.reduceBNe, ne_eq, not_true_eq_false, not_false_eq_true, decide_true, decide_false, List.length_map, Try.results13, false_and, ite_false]
        rw [List.take_of_length_le (by simp)]
      · rw [if_neg hb]
        simp -implicitDefEqProofs (disch := omega) only [go_sem, ↓reduceIte, Nat.reduceEqDiff, Nat.reduceMul, Nat.reduceAdd, Nat.reduceDiv, Nat.reduceBEq, Nat.reduceLeDiff, Int.reduceToNat, Int.reduceNe, Int.reduceEq, Int.reduceLT, Int.reduceLE, Int.reduceBEq, Int.reduceBNe, ne_eq, not_true_eq_false, not_false_eq_true, decide_true, decide_false, List.length_map]
        refine branch_mk (fun hb => ?_) (fun hb => ?_)
        · rw [if_pos hb]
          simp -implicitDefEqProofs (disch := omega) only [go_sem, ↓reduceIte, Nat.reduceEqDiff, Nat.reduceMul, Nat.reduceAdd, Nat.reduceDiv, Nat.reduceBEq, Nat.reduceLeDiff, Int.reduceToNat, Int.reduceNe, Int.reduceEq, Int.reduceLT, Int.reduceLE, Int.reduceBEq, Int.reduceBNe, ne_eq, not_true_eq_false, not_false_eq_true, decide_true, decide_false, List.length_map, Try.results13, false_and, ite_false]
          rw [List.take_of_length_le (by simp)]
        · rw [if_neg hb]
          simp -implicitDefEqProofs (disch := omega) only [go_sem, ↓reduceIte, Nat.reduceEqDiff, Nat.reduceMul, Nat.reduceAdd, Nat.reduceDiv, Nat.reduceBEq, Nat.reduceLeDiff, Int.reduceToNat, Int.reduceNe, Int.reduceEq, Int.reduceLT, Int.reduceLE, Int.reduceBEq, Int.reduceBNe, ne_eq, not_true_eq_false, not_false_eq_true, decide_true, decide_false, List.length_map]
          have p2 := pickF_in (c := n) (n := 2) (by omega)
          generalize hd : gd l (pickF pos l.length).toNat = d
          refine loopC_mk (fun m E σ => ∃ j : Nat, j + m = 60 + (pickF n 2).toNat - l.length ∧ E 2 = I n ∧ E 9 = .own 29360304 3 0 (l.length + j) ∧ E 10 = I (pickF pos l.length) ∧ σ 29360304 = some ⟨47, 3, (l ++ List.replicate j d).map DP⟩) (60 + (pickF n 2).toNat - l.length) ⟨0, by omega, ?_⟩ ?_
          · simp -implicitDefEqProofs (disch := omega) only [go_sem, ↓reduceIte, Nat.reduceEqDiff, Nat.reduceMul, Nat.reduceAdd, Nat.reduceDiv, Nat.reduceBEq, Nat.reduceLeDiff, Int.reduceToNat, Int.reduceNe, Int.reduceEq, Int.reduceLT, Int.reduceLE, Int.reduceBEq, Int.reduceBNe, ne_eq, not_true_eq_false, not_false_eq_true, decide_true, decide_false, List.length_map]
            simp
          · rintro m E σ ⟨j, hj, e2, e9, e10, hs⟩
            simp -implicitDefEqProofs (disch := omega) only [go_sem, ↓reduceIte, Nat.reduceEqDiff, Nat.reduceMul, Nat.reduceAdd, Nat.reduceDiv, Nat.reduceBEq, Nat.reduceLeDiff, Int.reduceToNat, Int.reduceNe, Int.reduceEq, Int.reduceLT, Int.reduceLE, Int.reduceBEq, Int.reduceBNe, ne_eq, not_true_eq_false, not_false_eq_true, decide_true, decide_false, List.length_map, e2, e9, e10, hs]
            refine callC_at (pickR_ev _ _ h2 (by decide)) ?_
            have eg : gd (l ++ List.replicate j d) (pickF pos l.length).toNat = d := by rw [gd_append_left _ _ _ (by omega), hd]
            have er : l ++ List.replicate (j + 1) d = (l ++ List.replicate j d) ++ [d] := by rw [List.replicate_succ', List.append_assoc]
            have elen : (l ++ List.replicate j d).length = l.length + j := by simp
            simp -implicitDefEqProofs (disch := omega) only [go_sem, ↓reduceIte, Nat.reduceEqDiff, Nat.reduceMul, Nat.reduceAdd, Nat.reduceDiv, Nat.reduceBEq, Nat.reduceLeDiff, Int.reduceToNat, Int.reduceNe, Int.reduceEq, Int.reduceLT, Int.reduceLE, Int.reduceBEq, Int.reduceBNe, ne_eq, not_true_eq_false, not_false_eq_true, decide_true, decide_false, List.length_map, e2, e9, e10, hs]
            refine branch_mk (fun hc => ?_) (fun hc => ?_)
            · simp -implicitDefEqProofs (disch := omega) only [go_sem, ↓reduceIte, Nat.reduceEqDiff, Nat.reduceMul, Nat.reduceAdd, Nat.reduceDiv, Nat.reduceBEq, Nat.reduceLeDiff, Int.reduceToNat, Int.reduceNe, Int.reduceEq, Int.reduceLT, Int.reduceLE, Int.reduceBEq, Int.reduceBNe, ne_eq, not_true_eq_false, not_false_eq_true, decide_true, decide_false, List.length_map, e2, e9, e10, hs, elen, eg]
              refine againQ_mk (m - 1) (by omega) ⟨j + 1, by omega, ?_⟩
              simp -implicitDefEqProofs (disch := omega) only [go_sem, ↓reduceIte, Nat.reduceEqDiff, Nat.reduceMul, Nat.reduceAdd, Nat.reduceDiv, Nat.reduceBEq, Nat.reduceLeDiff, Int.reduceToNat, Int.reduceNe, Int.reduceEq, Int.reduceLT, Int.reduceLE, Int.reduceBEq, Int.reduceBNe, ne_eq, not_true_eq_false, not_false_eq_true, decide_true, decide_false, List.length_map, e2, e9, e10, hs, er]
              simp
              try omega
            · have ej : j = 60 + (pickF n 2).toNat - l.length := by omega
              subst ej
              simp -implicitDefEqProofs (disch := omega) only [go_sem, ↓reduceIte, Nat.reduceEqDiff, Nat.reduceMul, Nat.reduceAdd, Nat.reduceDiv, Nat.reduceBEq, Nat.reduceLeDiff, Int.reduceToNat, Int.reduceNe, Int.reduceEq, Int.reduceLT, Int.reduceLE, Int.reduceBEq, Int.reduceBNe, ne_eq, not_true_eq_false, not_false_eq_true, decide_true, decide_false, List.length_map, e2, e9, e10, hs, elen, Try.results13]
end Go.Proofs.Ytjbgckjcbmmobaa

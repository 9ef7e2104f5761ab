/- The contracts of chapter 24 -/
import Derived.Test.YtmiahmpobpokmaaKD
import Derived.Test.YtmiahmpobpokmaaKE
import Derived.Test.YtmiahmpobpokmaaProg
import Derived.Test.YtmiahmpobpokmaaRows
/- Facts about the types, written by facts.py. -/
set_option maxRecDepth 100000
namespace Go.Proofs.Ytmiahmpobpokmaa
open Go.Vai Go Go.Proofs
@[go_sem] theorem tund_0 : tund Try.prog 0 = true := by kernel_rfl
@[go_sem] theorem tsz_0 : tsz Try.prog 0 = 1 := by kernel_rfl
@[go_sem] theorem tel_0 : tel Try.prog 0 = (none : Option TypeId) := by kernel_rfl
@[go_sem] theorem tarr_0 : tarr Try.prog 0 = (none : Option (Nat × TypeId)) := by kernel_rfl
@[go_sem] theorem tfld_0 : tfld Try.prog 0 = (none : Option (List (Nat × TypeId))) := by kernel_rfl
@[go_sem] theorem tint_0 : tint Try.prog 0 = (none : Option IntKind) := by kernel_rfl
@[go_sem] theorem tstr_0 : tstr Try.prog 0 = false := by kernel_rfl
@[go_sem] theorem tagg_0 : tagg Try.prog 0 = (some false : Option Bool) := by kernel_rfl
@[go_sem] theorem tby_0 : tby Try.prog 0 = 0 := by kernel_rfl
@[go_sem] theorem tkind_0 : tkind Try.prog 0 = (none : Option Nat) := by kernel_rfl
@[go_sem] theorem teq_0 : teq Try.prog 0 = (none : Option (List Nat)) := by kernel_rfl
@[go_sem] theorem tzA_0 : tzA Try.prog 0 = (some (AV.tup []) : Option AV) := by kernel_rfl
@[go_sem] theorem tund_1 : tund Try.prog 1 = true := by kernel_rfl
@[go_sem] theorem tsz_1 : tsz Try.prog 1 = 1 := by kernel_rfl
@[go_sem] theorem tel_1 : tel Try.prog 1 = (none : Option TypeId) := by kernel_rfl
@[go_sem] theorem tarr_1 : tarr Try.prog 1 = (none : Option (Nat × TypeId)) := by kernel_rfl
@[go_sem] theorem tfld_1 : tfld Try.prog 1 = (none : Option (List (Nat × TypeId))) := by kernel_rfl
@[go_sem] theorem tint_1 : tint Try.prog 1 = (none : Option IntKind) := by kernel_rfl
@[go_sem] theorem tstr_1 : tstr Try.prog 1 = false := by kernel_rfl
@[go_sem] theorem tagg_1 : tagg Try.prog 1 = (some false : Option Bool) := by kernel_rfl
@[go_sem] theorem tby_1 : tby Try.prog 1 = 8 := by kernel_rfl
@[go_sem] theorem tkind_1 : tkind Try.prog 1 = (none : Option Nat) := by kernel_rfl
@[go_sem] theorem teq_1 : teq Try.prog 1 = (none : Option (List Nat)) := by kernel_rfl
@[go_sem] theorem tzA_1 : tzA Try.prog 1 = (some (AV.v Value.nilFunc) : Option AV) := by kernel_rfl
@[go_sem] theorem tund_2 : tund Try.prog 2 = true := by kernel_rfl
@[go_sem] theorem tsz_2 : tsz Try.prog 2 = 1 := by kernel_rfl
@[go_sem] theorem tel_2 : tel Try.prog 2 = (none : Option TypeId) := by kernel_rfl
@[go_sem] theorem tarr_2 : tarr Try.prog 2 = (none : Option (Nat × TypeId)) := by kernel_rfl
@[go_sem] theorem tfld_2 : tfld Try.prog 2 = (none : Option (List (Nat × TypeId))) := by kernel_rfl
@[go_sem] theorem tint_2 : tint Try.prog 2 = (some IntKind.i64 : Option IntKind) := by kernel_rfl
@[go_sem] theorem tstr_2 : tstr Try.prog 2 = false := by kernel_rfl
@[go_sem] theorem tagg_2 : tagg Try.prog 2 = (some false : Option Bool) := by kernel_rfl
@[go_sem] theorem tby_2 : tby Try.prog 2 = 8 := by kernel_rfl
@[go_sem] theorem tkind_2 : tkind Try.prog 2 = (some 0 : Option Nat) := by kernel_rfl
@[go_sem] theorem teq_2 : teq Try.prog 2 = (none : Option (List Nat)) := by kernel_rfl
@[go_sem] theorem tzA_2 : tzA Try.prog 2 = (some (AV.v (Value.int IntKind.i64 (0))) : Option AV) := by kernel_rfl
@[go_sem] theorem tund_3 : tund Try.prog 3 = true := by kernel_rfl
@[go_sem] theorem tsz_3 : tsz Try.prog 3 = 1 := by kernel_rfl
@[go_sem] theorem tel_3 : tel Try.prog 3 = (none : Option TypeId) := by kernel_rfl
@[go_sem] theorem tarr_3 : tarr Try.prog 3 = (none : Option (Nat × TypeId)) := by kernel_rfl
@[go_sem] theorem tfld_3 : tfld Try.prog 3 = (none : Option (List (Nat × TypeId))) := by kernel_rfl
@[go_sem] theorem tint_3 : tint Try.prog 3 = (some IntKind.i64 : Option IntKind) := by kernel_rfl
@[go_sem] theorem tstr_3 : tstr Try.prog 3 = false := by kernel_rfl
@[go_sem] theorem tagg_3 : tagg Try.prog 3 = (some false : Option Bool) := by kernel_rfl
@[go_sem] theorem tby_3 : tby Try.prog 3 = 8 := by kernel_rfl
@[go_sem] theorem tkind_3 : tkind Try.prog 3 = (some 0 : Option Nat) := by kernel_rfl
@[go_sem] theorem teq_3 : teq Try.prog 3 = (none : Option (List Nat)) := by kernel_rfl
@[go_sem] theorem tzA_3 : tzA Try.prog 3 = (some (AV.v (Value.int IntKind.i64 (0))) : Option AV) := by kernel_rfl
@[go_sem] theorem tund_4 : tund Try.prog 4 = true := by kernel_rfl
@[go_sem] theorem tsz_4 : tsz Try.prog 4 = 1 := by kernel_rfl
@[go_sem] theorem tel_4 : tel Try.prog 4 = (none : Option TypeId) := by kernel_rfl
@[go_sem] theorem tarr_4 : tarr Try.prog 4 = (none : Option (Nat × TypeId)) := by kernel_rfl
@[go_sem] theorem tfld_4 : tfld Try.prog 4 = (none : Option (List (Nat × TypeId))) := by kernel_rfl
@[go_sem] theorem tint_4 : tint Try.prog 4 = (none : Option IntKind) := by kernel_rfl
@[go_sem] theorem tstr_4 : tstr Try.prog 4 = false := by kernel_rfl
@[go_sem] theorem tagg_4 : tagg Try.prog 4 = (some false : Option Bool) := by kernel_rfl
@[go_sem] theorem tby_4 : tby Try.prog 4 = 1 := by kernel_rfl
@[go_sem] theorem tkind_4 : tkind Try.prog 4 = (some 1 : Option Nat) := by kernel_rfl
@[go_sem] theorem teq_4 : teq Try.prog 4 = (none : Option (List Nat)) := by kernel_rfl
@[go_sem] theorem tzA_4 : tzA Try.prog 4 = (some (AV.v (Value.bool false)) : Option AV) := by kernel_rfl
@[go_sem] theorem tund_5 : tund Try.prog 5 = true := by kernel_rfl
@[go_sem] theorem tsz_5 : tsz Try.prog 5 = 1 := by kernel_rfl
@[go_sem] theorem tel_5 : tel Try.prog 5 = (none : Option TypeId) := by kernel_rfl
@[go_sem] theorem tarr_5 : tarr Try.prog 5 = (none : Option (Nat × TypeId)) := by kernel_rfl
@[go_sem] theorem tfld_5 : tfld Try.prog 5 = (none : Option (List (Nat × TypeId))) := by kernel_rfl
@[go_sem] theorem tint_5 : tint Try.prog 5 = (some IntKind.u8 : Option IntKind) := by kernel_rfl
@[go_sem] theorem tstr_5 : tstr Try.prog 5 = false := by kernel_rfl
@[go_sem] theorem tagg_5 : tagg Try.prog 5 = (some false : Option Bool) := by kernel_rfl
@[go_sem] theorem tby_5 : tby Try.prog 5 = 1 := by kernel_rfl
@[go_sem] theorem tkind_5 : tkind Try.prog 5 = (some 0 : Option Nat) := by kernel_rfl
@[go_sem] theorem teq_5 : teq Try.prog 5 = (none : Option (List Nat)) := by kernel_rfl
@[go_sem] theorem tzA_5 : tzA Try.prog 5 = (some (AV.v (Value.int IntKind.u8 (0))) : Option AV) := by kernel_rfl
@[go_sem] theorem tund_6 : tund Try.prog 6 = true := by kernel_rfl
@[go_sem] theorem tsz_6 : tsz Try.prog 6 = 1 := by kernel_rfl
@[go_sem] theorem tel_6 : tel Try.prog 6 = (none : Option TypeId) := by kernel_rfl
@[go_sem] theorem tarr_6 : tarr Try.prog 6 = (none : Option (Nat × TypeId)) := by kernel_rfl
@[go_sem] theorem tfld_6 : tfld Try.prog 6 = (none : Option (List (Nat × TypeId))) := by kernel_rfl
@[go_sem] theorem tint_6 : tint Try.prog 6 = (some IntKind.u8 : Option IntKind) := by kernel_rfl
@[go_sem] theorem tstr_6 : tstr Try.prog 6 = false := by kernel_rfl
@[go_sem] theorem tagg_6 : tagg Try.prog 6 = (some false : Option Bool) := by kernel_rfl
@[go_sem] theorem tby_6 : tby Try.prog 6 = 1 := by kernel_rfl
@[go_sem] theorem tkind_6 : tkind Try.prog 6 = (some 0 : Option Nat) := by kernel_rfl
@[go_sem] theorem teq_6 : teq Try.prog 6 = (none : Option (List Nat)) := by kernel_rfl
@[go_sem] theorem tzA_6 : tzA Try.prog 6 = (some (AV.v (Value.int IntKind.u8 (0))) : Option AV) := by kernel_rfl
@[go_sem] theorem tund_7 : tund Try.prog 7 = true := by kernel_rfl
@[go_sem] theorem tsz_7 : tsz Try.prog 7 = 4 := by kernel_rfl
@[go_sem] theorem tel_7 : tel Try.prog 7 = (none : Option TypeId) := by kernel_rfl
@[go_sem] theorem tarr_7 : tarr Try.prog 7 = (none : Option (Nat × TypeId)) := by kernel_rfl
@[go_sem] theorem tfld_7 : tfld Try.prog 7 = (some [(0, 2), (1, 3), (2, 4), (3, 6)] : Option (List (Nat × TypeId))) := by kernel_rfl
@[go_sem] theorem tint_7 : tint Try.prog 7 = (none : Option IntKind) := by kernel_rfl
@[go_sem] theorem tstr_7 : tstr Try.prog 7 = false := by kernel_rfl
@[go_sem] theorem tagg_7 : tagg Try.prog 7 = (some true : Option Bool) := by kernel_rfl
@[go_sem] theorem tby_7 : tby Try.prog 7 = 24 := by kernel_rfl
@[go_sem] theorem tkind_7 : tkind Try.prog 7 = (none : Option Nat) := by kernel_rfl
@[go_sem] theorem teq_7 : teq Try.prog 7 = (some [0, 0, 1, 0] : Option (List Nat)) := by kernel_rfl
@[go_sem] theorem tzA_7 : tzA Try.prog 7 = (some (AV.agg [AV.v (Value.int IntKind.i64 (0)), AV.v (Value.int IntKind.i64 (0)), AV.v (Value.bool false), AV.v (Value.int IntKind.u8 (0))]) : Option AV) := by kernel_rfl
@[go_sem] theorem tund_8 : tund Try.prog 8 = true := by kernel_rfl
@[go_sem] theorem tsz_8 : tsz Try.prog 8 = 4 := by kernel_rfl
@[go_sem] theorem tel_8 : tel Try.prog 8 = (none : Option TypeId) := by kernel_rfl
@[go_sem] theorem tarr_8 : tarr Try.prog 8 = (none : Option (Nat × TypeId)) := by kernel_rfl
@[go_sem] theorem tfld_8 : tfld Try.prog 8 = (some [(0, 2), (1, 3), (2, 4), (3, 6)] : Option (List (Nat × TypeId))) := by kernel_rfl
@[go_sem] theorem tint_8 : tint Try.prog 8 = (none : Option IntKind) := by kernel_rfl
@[go_sem] theorem tstr_8 : tstr Try.prog 8 = false := by kernel_rfl
@[go_sem] theorem tagg_8 : tagg Try.prog 8 = (some true : Option Bool) := by kernel_rfl
@[go_sem] theorem tby_8 : tby Try.prog 8 = 24 := by kernel_rfl
@[go_sem] theorem tkind_8 : tkind Try.prog 8 = (none : Option Nat) := by kernel_rfl
@[go_sem] theorem teq_8 : teq Try.prog 8 = (some [0, 0, 1, 0] : Option (List Nat)) := by kernel_rfl
@[go_sem] theorem tzA_8 : tzA Try.prog 8 = (some (AV.agg [AV.v (Value.int IntKind.i64 (0)), AV.v (Value.int IntKind.i64 (0)), AV.v (Value.bool false), AV.v (Value.int IntKind.u8 (0))]) : Option AV) := by kernel_rfl
@[go_sem] theorem tund_9 : tund Try.prog 9 = true := by kernel_rfl
@[go_sem] theorem tsz_9 : tsz Try.prog 9 = 1 := by kernel_rfl
@[go_sem] theorem tel_9 : tel Try.prog 9 = (none : Option TypeId) := by kernel_rfl
@[go_sem] theorem tarr_9 : tarr Try.prog 9 = (none : Option (Nat × TypeId)) := by kernel_rfl
@[go_sem] theorem tfld_9 : tfld Try.prog 9 = (none : Option (List (Nat × TypeId))) := by kernel_rfl
@[go_sem] theorem tint_9 : tint Try.prog 9 = (none : Option IntKind) := by kernel_rfl
@[go_sem] theorem tstr_9 : tstr Try.prog 9 = true := by kernel_rfl
@[go_sem] theorem tagg_9 : tagg Try.prog 9 = (some false : Option Bool) := by kernel_rfl
@[go_sem] theorem tby_9 : tby Try.prog 9 = 16 := by kernel_rfl
@[go_sem] theorem tkind_9 : tkind Try.prog 9 = (some 2 : Option Nat) := by kernel_rfl
@[go_sem] theorem teq_9 : teq Try.prog 9 = (none : Option (List Nat)) := by kernel_rfl
@[go_sem] theorem tzA_9 : tzA Try.prog 9 = (some (AV.v (Value.string ByteArray.empty)) : Option AV) := by kernel_rfl
@[go_sem] theorem tund_10 : tund Try.prog 10 = true := by kernel_rfl
@[go_sem] theorem tsz_10 : tsz Try.prog 10 = 1 := by kernel_rfl
@[go_sem] theorem tel_10 : tel Try.prog 10 = (none : Option TypeId) := by kernel_rfl
@[go_sem] theorem tarr_10 : tarr Try.prog 10 = (none : Option (Nat × TypeId)) := by kernel_rfl
@[go_sem] theorem tfld_10 : tfld Try.prog 10 = (none : Option (List (Nat × TypeId))) := by kernel_rfl
@[go_sem] theorem tint_10 : tint Try.prog 10 = (none : Option IntKind) := by kernel_rfl
@[go_sem] theorem tstr_10 : tstr Try.prog 10 = true := by kernel_rfl
@[go_sem] theorem tagg_10 : tagg Try.prog 10 = (some false : Option Bool) := by kernel_rfl
@[go_sem] theorem tby_10 : tby Try.prog 10 = 16 := by kernel_rfl
@[go_sem] theorem tkind_10 : tkind Try.prog 10 = (some 2 : Option Nat) := by kernel_rfl
@[go_sem] theorem teq_10 : teq Try.prog 10 = (none : Option (List Nat)) := by kernel_rfl
@[go_sem] theorem tzA_10 : tzA Try.prog 10 = (some (AV.v (Value.string ByteArray.empty)) : Option AV) := by kernel_rfl
@[go_sem] theorem tund_11 : tund Try.prog 11 = true := by kernel_rfl
@[go_sem] theorem tsz_11 : tsz Try.prog 11 = 1 := by kernel_rfl
@[go_sem] theorem tel_11 : tel Try.prog 11 = (none : Option TypeId) := by kernel_rfl
@[go_sem] theorem tarr_11 : tarr Try.prog 11 = (none : Option (Nat × TypeId)) := by kernel_rfl
@[go_sem] theorem tfld_11 : tfld Try.prog 11 = (none : Option (List (Nat × TypeId))) := by kernel_rfl
@[go_sem] theorem tint_11 : tint Try.prog 11 = (none : Option IntKind) := by kernel_rfl
@[go_sem] theorem tstr_11 : tstr Try.prog 11 = true := by kernel_rfl
@[go_sem] theorem tagg_11 : tagg Try.prog 11 = (some false : Option Bool) := by kernel_rfl
@[go_sem] theorem tby_11 : tby Try.prog 11 = 16 := by kernel_rfl
@[go_sem] theorem tkind_11 : tkind Try.prog 11 = (some 2 : Option Nat) := by kernel_rfl
@[go_sem] theorem teq_11 : teq Try.prog 11 = (none : Option (List Nat)) := by kernel_rfl
@[go_sem] theorem tzA_11 : tzA Try.prog 11 = (some (AV.v (Value.string ByteArray.empty)) : Option AV) := by kernel_rfl
@[go_sem] theorem tund_12 : tund Try.prog 12 = true := by kernel_rfl
@[go_sem] theorem tsz_12 : tsz Try.prog 12 = 1 := by kernel_rfl
@[go_sem] theorem tel_12 : tel Try.prog 12 = (none : Option TypeId) := by kernel_rfl
@[go_sem] theorem tarr_12 : tarr Try.prog 12 = (none : Option (Nat × TypeId)) := by kernel_rfl
@[go_sem] theorem tfld_12 : tfld Try.prog 12 = (none : Option (List (Nat × TypeId))) := by kernel_rfl
@[go_sem] theorem tint_12 : tint Try.prog 12 = (some IntKind.u64 : Option IntKind) := by kernel_rfl
@[go_sem] theorem tstr_12 : tstr Try.prog 12 = false := by kernel_rfl
@[go_sem] theorem tagg_12 : tagg Try.prog 12 = (some false : Option Bool) := by kernel_rfl
@[go_sem] theorem tby_12 : tby Try.prog 12 = 8 := by kernel_rfl
@[go_sem] theorem tkind_12 : tkind Try.prog 12 = (some 0 : Option Nat) := by kernel_rfl
@[go_sem] theorem teq_12 : teq Try.prog 12 = (none : Option (List Nat)) := by kernel_rfl
@[go_sem] theorem tzA_12 : tzA Try.prog 12 = (some (AV.v (Value.int IntKind.u64 (0))) : Option AV) := by kernel_rfl
@[go_sem] theorem tund_13 : tund Try.prog 13 = true := by kernel_rfl
@[go_sem] theorem tsz_13 : tsz Try.prog 13 = 2 := by kernel_rfl
@[go_sem] theorem tel_13 : tel Try.prog 13 = (none : Option TypeId) := by kernel_rfl
@[go_sem] theorem tarr_13 : tarr Try.prog 13 = (none : Option (Nat × TypeId)) := by kernel_rfl
@[go_sem] theorem tfld_13 : tfld Try.prog 13 = (some [(0, 9), (1, 12)] : Option (List (Nat × TypeId))) := by kernel_rfl
@[go_sem] theorem tint_13 : tint Try.prog 13 = (none : Option IntKind) := by kernel_rfl
@[go_sem] theorem tstr_13 : tstr Try.prog 13 = false := by kernel_rfl
@[go_sem] theorem tagg_13 : tagg Try.prog 13 = (some true : Option Bool) := by kernel_rfl
@[go_sem] theorem tby_13 : tby Try.prog 13 = 24 := by kernel_rfl
@[go_sem] theorem tkind_13 : tkind Try.prog 13 = (none : Option Nat) := by kernel_rfl
@[go_sem] theorem teq_13 : teq Try.prog 13 = (none : Option (List Nat)) := by kernel_rfl
@[go_sem] theorem tzA_13 : tzA Try.prog 13 = (some (AV.agg [AV.v (Value.string ByteArray.empty), AV.v (Value.int IntKind.u64 (0))]) : Option AV) := by kernel_rfl
@[go_sem] theorem tund_14 : tund Try.prog 14 = true := by kernel_rfl
@[go_sem] theorem tsz_14 : tsz Try.prog 14 = 2 := by kernel_rfl
@[go_sem] theorem tel_14 : tel Try.prog 14 = (none : Option TypeId) := by kernel_rfl
@[go_sem] theorem tarr_14 : tarr Try.prog 14 = (none : Option (Nat × TypeId)) := by kernel_rfl
@[go_sem] theorem tfld_14 : tfld Try.prog 14 = (some [(0, 9), (1, 12)] : Option (List (Nat × TypeId))) := by kernel_rfl
@[go_sem] theorem tint_14 : tint Try.prog 14 = (none : Option IntKind) := by kernel_rfl
@[go_sem] theorem tstr_14 : tstr Try.prog 14 = false := by kernel_rfl
@[go_sem] theorem tagg_14 : tagg Try.prog 14 = (some true : Option Bool) := by kernel_rfl
@[go_sem] theorem tby_14 : tby Try.prog 14 = 24 := by kernel_rfl
@[go_sem] theorem tkind_14 : tkind Try.prog 14 = (none : Option Nat) := by kernel_rfl
@[go_sem] theorem teq_14 : teq Try.prog 14 = (none : Option (List Nat)) := by kernel_rfl
@[go_sem] theorem tzA_14 : tzA Try.prog 14 = (some (AV.agg [AV.v (Value.string ByteArray.empty), AV.v (Value.int IntKind.u64 (0))]) : Option AV) := by kernel_rfl
@[go_sem] theorem tund_15 : tund Try.prog 15 = true := by kernel_rfl
@[go_sem] theorem tsz_15 : tsz Try.prog 15 = 1 := by kernel_rfl
@[go_sem] theorem tel_15 : tel Try.prog 15 = (none : Option TypeId) := by kernel_rfl
@[go_sem] theorem tarr_15 : tarr Try.prog 15 = (none : Option (Nat × TypeId)) := by kernel_rfl
@[go_sem] theorem tfld_15 : tfld Try.prog 15 = (none : Option (List (Nat × TypeId))) := by kernel_rfl
@[go_sem] theorem tint_15 : tint Try.prog 15 = (none : Option IntKind) := by kernel_rfl
@[go_sem] theorem tstr_15 : tstr Try.prog 15 = false := by kernel_rfl
@[go_sem] theorem tagg_15 : tagg Try.prog 15 = (some false : Option Bool) := by kernel_rfl
@[go_sem] theorem tby_15 : tby Try.prog 15 = 8 := by kernel_rfl
@[go_sem] theorem tkind_15 : tkind Try.prog 15 = (none : Option Nat) := by kernel_rfl
@[go_sem] theorem teq_15 : teq Try.prog 15 = (none : Option (List Nat)) := by kernel_rfl
@[go_sem] theorem tzA_15 : tzA Try.prog 15 = (some (AV.v (Value.pointer none)) : Option AV) := by kernel_rfl
@[go_sem] theorem tund_16 : tund Try.prog 16 = true := by kernel_rfl
@[go_sem] theorem tsz_16 : tsz Try.prog 16 = 1 := by kernel_rfl
@[go_sem] theorem tel_16 : tel Try.prog 16 = (none : Option TypeId) := by kernel_rfl
@[go_sem] theorem tarr_16 : tarr Try.prog 16 = (none : Option (Nat × TypeId)) := by kernel_rfl
@[go_sem] theorem tfld_16 : tfld Try.prog 16 = (none : Option (List (Nat × TypeId))) := by kernel_rfl
@[go_sem] theorem tint_16 : tint Try.prog 16 = (none : Option IntKind) := by kernel_rfl
@[go_sem] theorem tstr_16 : tstr Try.prog 16 = false := by kernel_rfl
@[go_sem] theorem tagg_16 : tagg Try.prog 16 = (some false : Option Bool) := by kernel_rfl
@[go_sem] theorem tby_16 : tby Try.prog 16 = 8 := by kernel_rfl
@[go_sem] theorem tkind_16 : tkind Try.prog 16 = (none : Option Nat) := by kernel_rfl
@[go_sem] theorem teq_16 : teq Try.prog 16 = (none : Option (List Nat)) := by kernel_rfl
@[go_sem] theorem tzA_16 : tzA Try.prog 16 = (some (AV.v (Value.pointer none)) : Option AV) := by kernel_rfl
@[go_sem] theorem tund_17 : tund Try.prog 17 = true := by kernel_rfl
@[go_sem] theorem tsz_17 : tsz Try.prog 17 = 1 := by kernel_rfl
@[go_sem] theorem tel_17 : tel Try.prog 17 = (none : Option TypeId) := by kernel_rfl
@[go_sem] theorem tarr_17 : tarr Try.prog 17 = (none : Option (Nat × TypeId)) := by kernel_rfl
@[go_sem] theorem tfld_17 : tfld Try.prog 17 = (none : Option (List (Nat × TypeId))) := by kernel_rfl
@[go_sem] theorem tint_17 : tint Try.prog 17 = (none : Option IntKind) := by kernel_rfl
@[go_sem] theorem tstr_17 : tstr Try.prog 17 = false := by kernel_rfl
@[go_sem] theorem tagg_17 : tagg Try.prog 17 = (some false : Option Bool) := by kernel_rfl
@[go_sem] theorem tby_17 : tby Try.prog 17 = 8 := by kernel_rfl
@[go_sem] theorem tkind_17 : tkind Try.prog 17 = (none : Option Nat) := by kernel_rfl
@[go_sem] theorem teq_17 : teq Try.prog 17 = (none : Option (List Nat)) := by kernel_rfl
@[go_sem] theorem tzA_17 : tzA Try.prog 17 = (some (AV.v (Value.pointer none)) : Option AV) := by kernel_rfl
@[go_sem] theorem tund_18 : tund Try.prog 18 = true := by kernel_rfl
@[go_sem] theorem tsz_18 : tsz Try.prog 18 = 1 := by kernel_rfl
@[go_sem] theorem tel_18 : tel Try.prog 18 = (none : Option TypeId) := by kernel_rfl
@[go_sem] theorem tarr_18 : tarr Try.prog 18 = (none : Option (Nat × TypeId)) := by kernel_rfl
@[go_sem] theorem tfld_18 : tfld Try.prog 18 = (some [(0, 17)] : Option (List (Nat × TypeId))) := by kernel_rfl
@[go_sem] theorem tint_18 : tint Try.prog 18 = (none : Option IntKind) := by kernel_rfl
@[go_sem] theorem tstr_18 : tstr Try.prog 18 = false := by kernel_rfl
@[go_sem] theorem tagg_18 : tagg Try.prog 18 = (some true : Option Bool) := by kernel_rfl
@[go_sem] theorem tby_18 : tby Try.prog 18 = 8 := by kernel_rfl
@[go_sem] theorem tkind_18 : tkind Try.prog 18 = (none : Option Nat) := by kernel_rfl
@[go_sem] theorem teq_18 : teq Try.prog 18 = (none : Option (List Nat)) := by kernel_rfl
@[go_sem] theorem tzA_18 : tzA Try.prog 18 = (some (AV.agg [AV.v (Value.pointer none)]) : Option AV) := by kernel_rfl
@[go_sem] theorem tund_19 : tund Try.prog 19 = true := by kernel_rfl
@[go_sem] theorem tsz_19 : tsz Try.prog 19 = 1 := by kernel_rfl
@[go_sem] theorem tel_19 : tel Try.prog 19 = (none : Option TypeId) := by kernel_rfl
@[go_sem] theorem tarr_19 : tarr Try.prog 19 = (none : Option (Nat × TypeId)) := by kernel_rfl
@[go_sem] theorem tfld_19 : tfld Try.prog 19 = (some [(0, 17)] : Option (List (Nat × TypeId))) := by kernel_rfl
@[go_sem] theorem tint_19 : tint Try.prog 19 = (none : Option IntKind) := by kernel_rfl
@[go_sem] theorem tstr_19 : tstr Try.prog 19 = false := by kernel_rfl
@[go_sem] theorem tagg_19 : tagg Try.prog 19 = (some true : Option Bool) := by kernel_rfl
@[go_sem] theorem tby_19 : tby Try.prog 19 = 8 := by kernel_rfl
@[go_sem] theorem tkind_19 : tkind Try.prog 19 = (none : Option Nat) := by kernel_rfl
@[go_sem] theorem teq_19 : teq Try.prog 19 = (none : Option (List Nat)) := by kernel_rfl
@[go_sem] theorem tzA_19 : tzA Try.prog 19 = (some (AV.agg [AV.v (Value.pointer none)]) : Option AV) := by kernel_rfl
@[go_sem] theorem tund_20 : tund Try.prog 20 = true := by kernel_rfl
@[go_sem] theorem tsz_20 : tsz Try.prog 20 = 1 := by kernel_rfl
@[go_sem] theorem tel_20 : tel Try.prog 20 = (none : Option TypeId) := by kernel_rfl
@[go_sem] theorem tarr_20 : tarr Try.prog 20 = (none : Option (Nat × TypeId)) := by kernel_rfl
@[go_sem] theorem tfld_20 : tfld Try.prog 20 = (none : Option (List (Nat × TypeId))) := by kernel_rfl
@[go_sem] theorem tint_20 : tint Try.prog 20 = (none : Option IntKind) := by kernel_rfl
@[go_sem] theorem tstr_20 : tstr Try.prog 20 = false := by kernel_rfl
@[go_sem] theorem tagg_20 : tagg Try.prog 20 = (some false : Option Bool) := by kernel_rfl
@[go_sem] theorem tby_20 : tby Try.prog 20 = 16 := by kernel_rfl
@[go_sem] theorem tkind_20 : tkind Try.prog 20 = (none : Option Nat) := by kernel_rfl
@[go_sem] theorem teq_20 : teq Try.prog 20 = (none : Option (List Nat)) := by kernel_rfl
@[go_sem] theorem tzA_20 : tzA Try.prog 20 = (some (AV.v Value.nilIface) : Option AV) := by kernel_rfl
@[go_sem] theorem tund_21 : tund Try.prog 21 = true := by kernel_rfl
@[go_sem] theorem tsz_21 : tsz Try.prog 21 = 1 := by kernel_rfl
@[go_sem] theorem tel_21 : tel Try.prog 21 = (none : Option TypeId) := by kernel_rfl
@[go_sem] theorem tarr_21 : tarr Try.prog 21 = (none : Option (Nat × TypeId)) := by kernel_rfl
@[go_sem] theorem tfld_21 : tfld Try.prog 21 = (none : Option (List (Nat × TypeId))) := by kernel_rfl
@[go_sem] theorem tint_21 : tint Try.prog 21 = (some IntKind.i32 : Option IntKind) := by kernel_rfl
@[go_sem] theorem tstr_21 : tstr Try.prog 21 = false := by kernel_rfl
@[go_sem] theorem tagg_21 : tagg Try.prog 21 = (some false : Option Bool) := by kernel_rfl
@[go_sem] theorem tby_21 : tby Try.prog 21 = 4 := by kernel_rfl
@[go_sem] theorem tkind_21 : tkind Try.prog 21 = (some 0 : Option Nat) := by kernel_rfl
@[go_sem] theorem teq_21 : teq Try.prog 21 = (none : Option (List Nat)) := by kernel_rfl
@[go_sem] theorem tzA_21 : tzA Try.prog 21 = (some (AV.v (Value.int IntKind.i32 (0))) : Option AV) := by kernel_rfl
@[go_sem] theorem tund_22 : tund Try.prog 22 = true := by kernel_rfl
@[go_sem] theorem tsz_22 : tsz Try.prog 22 = 1 := by kernel_rfl
@[go_sem] theorem tz_22 : tz Try.prog 22 = some (Value.slice none 0 0) := by kernel_rfl
@[go_sem] theorem tel_22 : tel Try.prog 22 = (some 3 : Option TypeId) := by kernel_rfl
@[go_sem] theorem tarr_22 : tarr Try.prog 22 = (none : Option (Nat × TypeId)) := by kernel_rfl
@[go_sem] theorem tfld_22 : tfld Try.prog 22 = (none : Option (List (Nat × TypeId))) := by kernel_rfl
@[go_sem] theorem tint_22 : tint Try.prog 22 = (none : Option IntKind) := by kernel_rfl
@[go_sem] theorem tstr_22 : tstr Try.prog 22 = false := by kernel_rfl
@[go_sem] theorem tagg_22 : tagg Try.prog 22 = (some false : Option Bool) := by kernel_rfl
@[go_sem] theorem tby_22 : tby Try.prog 22 = 24 := by kernel_rfl
@[go_sem] theorem tkind_22 : tkind Try.prog 22 = (none : Option Nat) := by kernel_rfl
@[go_sem] theorem teq_22 : teq Try.prog 22 = (none : Option (List Nat)) := by kernel_rfl
@[go_sem] theorem tzA_22 : tzA Try.prog 22 = (some (AV.v (Value.slice none 0 0)) : Option AV) := by kernel_rfl
@[go_sem] theorem tund_23 : tund Try.prog 23 = true := by kernel_rfl
@[go_sem] theorem tsz_23 : tsz Try.prog 23 = 1 := by kernel_rfl
@[go_sem] theorem tz_23 : tz Try.prog 23 = some (Value.slice none 0 0) := by kernel_rfl
@[go_sem] theorem tel_23 : tel Try.prog 23 = (some 40 : Option TypeId) := by kernel_rfl
@[go_sem] theorem tarr_23 : tarr Try.prog 23 = (none : Option (Nat × TypeId)) := by kernel_rfl
@[go_sem] theorem tfld_23 : tfld Try.prog 23 = (none : Option (List (Nat × TypeId))) := by kernel_rfl
@[go_sem] theorem tint_23 : tint Try.prog 23 = (none : Option IntKind) := by kernel_rfl
@[go_sem] theorem tstr_23 : tstr Try.prog 23 = false := by kernel_rfl
@[go_sem] theorem tagg_23 : tagg Try.prog 23 = (some false : Option Bool) := by kernel_rfl
@[go_sem] theorem tby_23 : tby Try.prog 23 = 24 := by kernel_rfl
@[go_sem] theorem tkind_23 : tkind Try.prog 23 = (none : Option Nat) := by kernel_rfl
@[go_sem] theorem teq_23 : teq Try.prog 23 = (none : Option (List Nat)) := by kernel_rfl
@[go_sem] theorem tzA_23 : tzA Try.prog 23 = (some (AV.v (Value.slice none 0 0)) : Option AV) := by kernel_rfl
@[go_sem] theorem tund_24 : tund Try.prog 24 = true := by kernel_rfl
@[go_sem] theorem tsz_24 : tsz Try.prog 24 = 1 := by kernel_rfl
@[go_sem] theorem tel_24 : tel Try.prog 24 = (none : Option TypeId) := by kernel_rfl
@[go_sem] theorem tarr_24 : tarr Try.prog 24 = (none : Option (Nat × TypeId)) := by kernel_rfl
@[go_sem] theorem tfld_24 : tfld Try.prog 24 = (none : Option (List (Nat × TypeId))) := by kernel_rfl
@[go_sem] theorem tint_24 : tint Try.prog 24 = (none : Option IntKind) := by kernel_rfl
@[go_sem] theorem tstr_24 : tstr Try.prog 24 = false := by kernel_rfl
@[go_sem] theorem tagg_24 : tagg Try.prog 24 = (some false : Option Bool) := by kernel_rfl
@[go_sem] theorem tby_24 : tby Try.prog 24 = 8 := by kernel_rfl
@[go_sem] theorem tkind_24 : tkind Try.prog 24 = (none : Option Nat) := by kernel_rfl
@[go_sem] theorem teq_24 : teq Try.prog 24 = (none : Option (List Nat)) := by kernel_rfl
@[go_sem] theorem tzA_24 : tzA Try.prog 24 = (some (AV.v Value.nilFunc) : Option AV) := by kernel_rfl
@[go_sem] theorem tund_25 : tund Try.prog 25 = true := by kernel_rfl
@[go_sem] theorem tsz_25 : tsz Try.prog 25 = 1 := by kernel_rfl
@[go_sem] theorem tel_25 : tel Try.prog 25 = (none : Option TypeId) := by kernel_rfl
@[go_sem] theorem tarr_25 : tarr Try.prog 25 = (none : Option (Nat × TypeId)) := by kernel_rfl
@[go_sem] theorem tfld_25 : tfld Try.prog 25 = (none : Option (List (Nat × TypeId))) := by kernel_rfl
@[go_sem] theorem tint_25 : tint Try.prog 25 = (none : Option IntKind) := by kernel_rfl
@[go_sem] theorem tstr_25 : tstr Try.prog 25 = false := by kernel_rfl
@[go_sem] theorem tagg_25 : tagg Try.prog 25 = (some false : Option Bool) := by kernel_rfl
@[go_sem] theorem tby_25 : tby Try.prog 25 = 0 := by kernel_rfl
@[go_sem] theorem tkind_25 : tkind Try.prog 25 = (none : Option Nat) := by kernel_rfl
@[go_sem] theorem teq_25 : teq Try.prog 25 = (none : Option (List Nat)) := by kernel_rfl
@[go_sem] theorem tzA_25 : tzA Try.prog 25 = (some (AV.tup [AV.v (Value.slice none 0 0), AV.v (Value.slice none 0 0), AV.v (Value.int IntKind.i64 (0))]) : Option AV) := by kernel_rfl
@[go_sem] theorem tund_26 : tund Try.prog 26 = true := by kernel_rfl
@[go_sem] theorem tsz_26 : tsz Try.prog 26 = 1 := by kernel_rfl
@[go_sem] theorem tel_26 : tel Try.prog 26 = (none : Option TypeId) := by kernel_rfl
@[go_sem] theorem tarr_26 : tarr Try.prog 26 = (none : Option (Nat × TypeId)) := by kernel_rfl
@[go_sem] theorem tfld_26 : tfld Try.prog 26 = (none : Option (List (Nat × TypeId))) := by kernel_rfl
@[go_sem] theorem tint_26 : tint Try.prog 26 = (none : Option IntKind) := by kernel_rfl
@[go_sem] theorem tstr_26 : tstr Try.prog 26 = false := by kernel_rfl
@[go_sem] theorem tagg_26 : tagg Try.prog 26 = (some false : Option Bool) := by kernel_rfl
@[go_sem] theorem tby_26 : tby Try.prog 26 = 8 := by kernel_rfl
@[go_sem] theorem tkind_26 : tkind Try.prog 26 = (none : Option Nat) := by kernel_rfl
@[go_sem] theorem teq_26 : teq Try.prog 26 = (none : Option (List Nat)) := by kernel_rfl
@[go_sem] theorem tzA_26 : tzA Try.prog 26 = (some (AV.v Value.nilFunc) : Option AV) := by kernel_rfl
@[go_sem] theorem tund_27 : tund Try.prog 27 = true := by kernel_rfl
@[go_sem] theorem tsz_27 : tsz Try.prog 27 = 1 := by kernel_rfl
@[go_sem] theorem tel_27 : tel Try.prog 27 = (none : Option TypeId) := by kernel_rfl
@[go_sem] theorem tarr_27 : tarr Try.prog 27 = (none : Option (Nat × TypeId)) := by kernel_rfl
@[go_sem] theorem tfld_27 : tfld Try.prog 27 = (none : Option (List (Nat × TypeId))) := by kernel_rfl
@[go_sem] theorem tint_27 : tint Try.prog 27 = (none : Option IntKind) := by kernel_rfl
@[go_sem] theorem tstr_27 : tstr Try.prog 27 = false := by kernel_rfl
@[go_sem] theorem tagg_27 : tagg Try.prog 27 = (some false : Option Bool) := by kernel_rfl
@[go_sem] theorem tby_27 : tby Try.prog 27 = 8 := by kernel_rfl
@[go_sem] theorem tkind_27 : tkind Try.prog 27 = (none : Option Nat) := by kernel_rfl
@[go_sem] theorem teq_27 : teq Try.prog 27 = (none : Option (List Nat)) := by kernel_rfl
@[go_sem] theorem tzA_27 : tzA Try.prog 27 = (some (AV.v Value.nilFunc) : Option AV) := by kernel_rfl
@[go_sem] theorem tund_28 : tund Try.prog 28 = true := by kernel_rfl
@[go_sem] theorem tsz_28 : tsz Try.prog 28 = 1 := by kernel_rfl
@[go_sem] theorem tz_28 : tz Try.prog 28 = some (Value.slice none 0 0) := by kernel_rfl
@[go_sem] theorem tel_28 : tel Try.prog 28 = (some 22 : Option TypeId) := by kernel_rfl
@[go_sem] theorem tarr_28 : tarr Try.prog 28 = (none : Option (Nat × TypeId)) := by kernel_rfl
@[go_sem] theorem tfld_28 : tfld Try.prog 28 = (none : Option (List (Nat × TypeId))) := by kernel_rfl
@[go_sem] theorem tint_28 : tint Try.prog 28 = (none : Option IntKind) := by kernel_rfl
@[go_sem] theorem tstr_28 : tstr Try.prog 28 = false := by kernel_rfl
@[go_sem] theorem tagg_28 : tagg Try.prog 28 = (some false : Option Bool) := by kernel_rfl
@[go_sem] theorem tby_28 : tby Try.prog 28 = 24 := by kernel_rfl
@[go_sem] theorem tkind_28 : tkind Try.prog 28 = (none : Option Nat) := by kernel_rfl
@[go_sem] theorem teq_28 : teq Try.prog 28 = (none : Option (List Nat)) := by kernel_rfl
@[go_sem] theorem tzA_28 : tzA Try.prog 28 = (some (AV.v (Value.slice none 0 0)) : Option AV) := by kernel_rfl
@[go_sem] theorem tund_29 : tund Try.prog 29 = true := by kernel_rfl
@[go_sem] theorem tsz_29 : tsz Try.prog 29 = 1 := by kernel_rfl
@[go_sem] theorem tel_29 : tel Try.prog 29 = (none : Option TypeId) := by kernel_rfl
@[go_sem] theorem tarr_29 : tarr Try.prog 29 = (none : Option (Nat × TypeId)) := by kernel_rfl
@[go_sem] theorem tfld_29 : tfld Try.prog 29 = (none : Option (List (Nat × TypeId))) := by kernel_rfl
@[go_sem] theorem tint_29 : tint Try.prog 29 = (none : Option IntKind) := by kernel_rfl
@[go_sem] theorem tstr_29 : tstr Try.prog 29 = false := by kernel_rfl
@[go_sem] theorem tagg_29 : tagg Try.prog 29 = (some false : Option Bool) := by kernel_rfl
@[go_sem] theorem tby_29 : tby Try.prog 29 = 8 := by kernel_rfl
@[go_sem] theorem tkind_29 : tkind Try.prog 29 = (none : Option Nat) := by kernel_rfl
@[go_sem] theorem teq_29 : teq Try.prog 29 = (none : Option (List Nat)) := by kernel_rfl
@[go_sem] theorem tzA_29 : tzA Try.prog 29 = (some (AV.v Value.nilFunc) : Option AV) := by kernel_rfl
@[go_sem] theorem tund_30 : tund Try.prog 30 = true := by kernel_rfl
@[go_sem] theorem tsz_30 : tsz Try.prog 30 = 1 := by kernel_rfl
@[go_sem] theorem tel_30 : tel Try.prog 30 = (none : Option TypeId) := by kernel_rfl
@[go_sem] theorem tarr_30 : tarr Try.prog 30 = (none : Option (Nat × TypeId)) := by kernel_rfl
@[go_sem] theorem tfld_30 : tfld Try.prog 30 = (none : Option (List (Nat × TypeId))) := by kernel_rfl
@[go_sem] theorem tint_30 : tint Try.prog 30 = (some IntKind.i64 : Option IntKind) := by kernel_rfl
@[go_sem] theorem tstr_30 : tstr Try.prog 30 = false := by kernel_rfl
@[go_sem] theorem tagg_30 : tagg Try.prog 30 = (some false : Option Bool) := by kernel_rfl
@[go_sem] theorem tby_30 : tby Try.prog 30 = 8 := by kernel_rfl
@[go_sem] theorem tkind_30 : tkind Try.prog 30 = (some 0 : Option Nat) := by kernel_rfl
@[go_sem] theorem teq_30 : teq Try.prog 30 = (none : Option (List Nat)) := by kernel_rfl
@[go_sem] theorem tzA_30 : tzA Try.prog 30 = (some (AV.v (Value.int IntKind.i64 (0))) : Option AV) := by kernel_rfl
@[go_sem] theorem tund_31 : tund Try.prog 31 = true := by kernel_rfl
@[go_sem] theorem tsz_31 : tsz Try.prog 31 = 1 := by kernel_rfl
@[go_sem] theorem tel_31 : tel Try.prog 31 = (none : Option TypeId) := by kernel_rfl
@[go_sem] theorem tarr_31 : tarr Try.prog 31 = (none : Option (Nat × TypeId)) := by kernel_rfl
@[go_sem] theorem tfld_31 : tfld Try.prog 31 = (none : Option (List (Nat × TypeId))) := by kernel_rfl
@[go_sem] theorem tint_31 : tint Try.prog 31 = (none : Option IntKind) := by kernel_rfl
@[go_sem] theorem tstr_31 : tstr Try.prog 31 = false := by kernel_rfl
@[go_sem] theorem tagg_31 : tagg Try.prog 31 = (some false : Option Bool) := by kernel_rfl
@[go_sem] theorem tby_31 : tby Try.prog 31 = 0 := by kernel_rfl
@[go_sem] theorem tkind_31 : tkind Try.prog 31 = (none : Option Nat) := by kernel_rfl
@[go_sem] theorem teq_31 : teq Try.prog 31 = (none : Option (List Nat)) := by kernel_rfl
@[go_sem] theorem tzA_31 : tzA Try.prog 31 = (some (AV.tup [AV.v (Value.slice none 0 0), AV.v (Value.int IntKind.i64 (0)), AV.v (Value.int IntKind.i64 (0))]) : Option AV) := by kernel_rfl
@[go_sem] theorem tund_32 : tund Try.prog 32 = true := by kernel_rfl
@[go_sem] theorem tsz_32 : tsz Try.prog 32 = 1 := by kernel_rfl
@[go_sem] theorem tel_32 : tel Try.prog 32 = (none : Option TypeId) := by kernel_rfl
@[go_sem] theorem tarr_32 : tarr Try.prog 32 = (none : Option (Nat × TypeId)) := by kernel_rfl
@[go_sem] theorem tfld_32 : tfld Try.prog 32 = (none : Option (List (Nat × TypeId))) := by kernel_rfl
@[go_sem] theorem tint_32 : tint Try.prog 32 = (none : Option IntKind) := by kernel_rfl
@[go_sem] theorem tstr_32 : tstr Try.prog 32 = false := by kernel_rfl
@[go_sem] theorem tagg_32 : tagg Try.prog 32 = (some false : Option Bool) := by kernel_rfl
@[go_sem] theorem tby_32 : tby Try.prog 32 = 8 := by kernel_rfl
@[go_sem] theorem tkind_32 : tkind Try.prog 32 = (none : Option Nat) := by kernel_rfl
@[go_sem] theorem teq_32 : teq Try.prog 32 = (none : Option (List Nat)) := by kernel_rfl
@[go_sem] theorem tzA_32 : tzA Try.prog 32 = (some (AV.v Value.nilFunc) : Option AV) := by kernel_rfl
@[go_sem] theorem tund_33 : tund Try.prog 33 = true := by kernel_rfl
@[go_sem] theorem tsz_33 : tsz Try.prog 33 = 1 := by kernel_rfl
@[go_sem] theorem tel_33 : tel Try.prog 33 = (none : Option TypeId) := by kernel_rfl
@[go_sem] theorem tarr_33 : tarr Try.prog 33 = (none : Option (Nat × TypeId)) := by kernel_rfl
@[go_sem] theorem tfld_33 : tfld Try.prog 33 = (none : Option (List (Nat × TypeId))) := by kernel_rfl
@[go_sem] theorem tint_33 : tint Try.prog 33 = (none : Option IntKind) := by kernel_rfl
@[go_sem] theorem tstr_33 : tstr Try.prog 33 = false := by kernel_rfl
@[go_sem] theorem tagg_33 : tagg Try.prog 33 = (some false : Option Bool) := by kernel_rfl
@[go_sem] theorem tby_33 : tby Try.prog 33 = 0 := by kernel_rfl
@[go_sem] theorem tkind_33 : tkind Try.prog 33 = (none : Option Nat) := by kernel_rfl
@[go_sem] theorem teq_33 : teq Try.prog 33 = (none : Option (List Nat)) := by kernel_rfl
@[go_sem] theorem tzA_33 : tzA Try.prog 33 = (some (AV.tup [AV.v (Value.slice none 0 0), AV.v (Value.int IntKind.i64 (0))]) : Option AV) := by kernel_rfl
@[go_sem] theorem tund_34 : tund Try.prog 34 = true := by kernel_rfl
@[go_sem] theorem tsz_34 : tsz Try.prog 34 = 1 := by kernel_rfl
@[go_sem] theorem tel_34 : tel Try.prog 34 = (none : Option TypeId) := by kernel_rfl
@[go_sem] theorem tarr_34 : tarr Try.prog 34 = (none : Option (Nat × TypeId)) := by kernel_rfl
@[go_sem] theorem tfld_34 : tfld Try.prog 34 = (none : Option (List (Nat × TypeId))) := by kernel_rfl
@[go_sem] theorem tint_34 : tint Try.prog 34 = (none : Option IntKind) := by kernel_rfl
@[go_sem] theorem tstr_34 : tstr Try.prog 34 = false := by kernel_rfl
@[go_sem] theorem tagg_34 : tagg Try.prog 34 = (some false : Option Bool) := by kernel_rfl
@[go_sem] theorem tby_34 : tby Try.prog 34 = 8 := by kernel_rfl
@[go_sem] theorem tkind_34 : tkind Try.prog 34 = (none : Option Nat) := by kernel_rfl
@[go_sem] theorem teq_34 : teq Try.prog 34 = (none : Option (List Nat)) := by kernel_rfl
@[go_sem] theorem tzA_34 : tzA Try.prog 34 = (some (AV.v Value.nilFunc) : Option AV) := by kernel_rfl
@[go_sem] theorem tund_35 : tund Try.prog 35 = true := by kernel_rfl
@[go_sem] theorem tsz_35 : tsz Try.prog 35 = 1 := by kernel_rfl
@[go_sem] theorem tel_35 : tel Try.prog 35 = (none : Option TypeId) := by kernel_rfl
@[go_sem] theorem tarr_35 : tarr Try.prog 35 = (none : Option (Nat × TypeId)) := by kernel_rfl
@[go_sem] theorem tfld_35 : tfld Try.prog 35 = (none : Option (List (Nat × TypeId))) := by kernel_rfl
@[go_sem] theorem tint_35 : tint Try.prog 35 = (none : Option IntKind) := by kernel_rfl
@[go_sem] theorem tstr_35 : tstr Try.prog 35 = false := by kernel_rfl
@[go_sem] theorem tagg_35 : tagg Try.prog 35 = (some false : Option Bool) := by kernel_rfl
@[go_sem] theorem tby_35 : tby Try.prog 35 = 8 := by kernel_rfl
@[go_sem] theorem tkind_35 : tkind Try.prog 35 = (none : Option Nat) := by kernel_rfl
@[go_sem] theorem teq_35 : teq Try.prog 35 = (none : Option (List Nat)) := by kernel_rfl
@[go_sem] theorem tzA_35 : tzA Try.prog 35 = (some (AV.v Value.nilFunc) : Option AV) := by kernel_rfl
@[go_sem] theorem tund_36 : tund Try.prog 36 = true := by kernel_rfl
@[go_sem] theorem tsz_36 : tsz Try.prog 36 = 1 := by kernel_rfl
@[go_sem] theorem tel_36 : tel Try.prog 36 = (none : Option TypeId) := by kernel_rfl
@[go_sem] theorem tarr_36 : tarr Try.prog 36 = (none : Option (Nat × TypeId)) := by kernel_rfl
@[go_sem] theorem tfld_36 : tfld Try.prog 36 = (none : Option (List (Nat × TypeId))) := by kernel_rfl
@[go_sem] theorem tint_36 : tint Try.prog 36 = (none : Option IntKind) := by kernel_rfl
@[go_sem] theorem tstr_36 : tstr Try.prog 36 = false := by kernel_rfl
@[go_sem] theorem tagg_36 : tagg Try.prog 36 = (some false : Option Bool) := by kernel_rfl
@[go_sem] theorem tby_36 : tby Try.prog 36 = 8 := by kernel_rfl
@[go_sem] theorem tkind_36 : tkind Try.prog 36 = (none : Option Nat) := by kernel_rfl
@[go_sem] theorem teq_36 : teq Try.prog 36 = (none : Option (List Nat)) := by kernel_rfl
@[go_sem] theorem tzA_36 : tzA Try.prog 36 = (some (AV.v Value.nilFunc) : Option AV) := by kernel_rfl
@[go_sem] theorem tund_37 : tund Try.prog 37 = true := by kernel_rfl
@[go_sem] theorem tsz_37 : tsz Try.prog 37 = 1 := by kernel_rfl
@[go_sem] theorem tel_37 : tel Try.prog 37 = (none : Option TypeId) := by kernel_rfl
@[go_sem] theorem tarr_37 : tarr Try.prog 37 = (none : Option (Nat × TypeId)) := by kernel_rfl
@[go_sem] theorem tfld_37 : tfld Try.prog 37 = (none : Option (List (Nat × TypeId))) := by kernel_rfl
@[go_sem] theorem tint_37 : tint Try.prog 37 = (none : Option IntKind) := by kernel_rfl
@[go_sem] theorem tstr_37 : tstr Try.prog 37 = false := by kernel_rfl
@[go_sem] theorem tagg_37 : tagg Try.prog 37 = (some false : Option Bool) := by kernel_rfl
@[go_sem] theorem tby_37 : tby Try.prog 37 = 0 := by kernel_rfl
@[go_sem] theorem tkind_37 : tkind Try.prog 37 = (none : Option Nat) := by kernel_rfl
@[go_sem] theorem teq_37 : teq Try.prog 37 = (none : Option (List Nat)) := by kernel_rfl
@[go_sem] theorem tzA_37 : tzA Try.prog 37 = (some (AV.tup [AV.v (Value.int IntKind.i64 (0)), AV.v (Value.int IntKind.i64 (0)), AV.v (Value.int IntKind.i64 (0)), AV.v (Value.int IntKind.i64 (0))]) : Option AV) := by kernel_rfl
@[go_sem] theorem tund_38 : tund Try.prog 38 = true := by kernel_rfl
@[go_sem] theorem tsz_38 : tsz Try.prog 38 = 1 := by kernel_rfl
@[go_sem] theorem tel_38 : tel Try.prog 38 = (none : Option TypeId) := by kernel_rfl
@[go_sem] theorem tarr_38 : tarr Try.prog 38 = (none : Option (Nat × TypeId)) := by kernel_rfl
@[go_sem] theorem tfld_38 : tfld Try.prog 38 = (none : Option (List (Nat × TypeId))) := by kernel_rfl
@[go_sem] theorem tint_38 : tint Try.prog 38 = (none : Option IntKind) := by kernel_rfl
@[go_sem] theorem tstr_38 : tstr Try.prog 38 = false := by kernel_rfl
@[go_sem] theorem tagg_38 : tagg Try.prog 38 = (some false : Option Bool) := by kernel_rfl
@[go_sem] theorem tby_38 : tby Try.prog 38 = 8 := by kernel_rfl
@[go_sem] theorem tkind_38 : tkind Try.prog 38 = (none : Option Nat) := by kernel_rfl
@[go_sem] theorem teq_38 : teq Try.prog 38 = (none : Option (List Nat)) := by kernel_rfl
@[go_sem] theorem tzA_38 : tzA Try.prog 38 = (some (AV.v Value.nilFunc) : Option AV) := by kernel_rfl
@[go_sem] theorem tund_39 : tund Try.prog 39 = true := by kernel_rfl
@[go_sem] theorem tsz_39 : tsz Try.prog 39 = 2 := by kernel_rfl
@[go_sem] theorem tel_39 : tel Try.prog 39 = (none : Option TypeId) := by kernel_rfl
@[go_sem] theorem tarr_39 : tarr Try.prog 39 = (none : Option (Nat × TypeId)) := by kernel_rfl
@[go_sem] theorem tfld_39 : tfld Try.prog 39 = (some [(0, 3), (1, 3)] : Option (List (Nat × TypeId))) := by kernel_rfl
@[go_sem] theorem tint_39 : tint Try.prog 39 = (none : Option IntKind) := by kernel_rfl
@[go_sem] theorem tstr_39 : tstr Try.prog 39 = false := by kernel_rfl
@[go_sem] theorem tagg_39 : tagg Try.prog 39 = (some true : Option Bool) := by kernel_rfl
@[go_sem] theorem tby_39 : tby Try.prog 39 = 16 := by kernel_rfl
@[go_sem] theorem tkind_39 : tkind Try.prog 39 = (none : Option Nat) := by kernel_rfl
@[go_sem] theorem teq_39 : teq Try.prog 39 = (some [0, 0] : Option (List Nat)) := by kernel_rfl
@[go_sem] theorem tzA_39 : tzA Try.prog 39 = (some (AV.agg [AV.v (Value.int IntKind.i64 (0)), AV.v (Value.int IntKind.i64 (0))]) : Option AV) := by kernel_rfl
@[go_sem] theorem tund_40 : tund Try.prog 40 = true := by kernel_rfl
@[go_sem] theorem tsz_40 : tsz Try.prog 40 = 2 := by kernel_rfl
@[go_sem] theorem tel_40 : tel Try.prog 40 = (none : Option TypeId) := by kernel_rfl
@[go_sem] theorem tarr_40 : tarr Try.prog 40 = (none : Option (Nat × TypeId)) := by kernel_rfl
@[go_sem] theorem tfld_40 : tfld Try.prog 40 = (some [(0, 3), (1, 3)] : Option (List (Nat × TypeId))) := by kernel_rfl
@[go_sem] theorem tint_40 : tint Try.prog 40 = (none : Option IntKind) := by kernel_rfl
@[go_sem] theorem tstr_40 : tstr Try.prog 40 = false := by kernel_rfl
@[go_sem] theorem tagg_40 : tagg Try.prog 40 = (some true : Option Bool) := by kernel_rfl
@[go_sem] theorem tby_40 : tby Try.prog 40 = 16 := by kernel_rfl
@[go_sem] theorem tkind_40 : tkind Try.prog 40 = (none : Option Nat) := by kernel_rfl
@[go_sem] theorem teq_40 : teq Try.prog 40 = (some [0, 0] : Option (List Nat)) := by kernel_rfl
@[go_sem] theorem tzA_40 : tzA Try.prog 40 = (some (AV.agg [AV.v (Value.int IntKind.i64 (0)), AV.v (Value.int IntKind.i64 (0))]) : Option AV) := by kernel_rfl
@[go_sem] theorem tund_41 : tund Try.prog 41 = true := by kernel_rfl
@[go_sem] theorem tsz_41 : tsz Try.prog 41 = 1 := by kernel_rfl
@[go_sem] theorem tz_41 : tz Try.prog 41 = some (Value.slice none 0 0) := by kernel_rfl
@[go_sem] theorem tel_41 : tel Try.prog 41 = (some 23 : Option TypeId) := by kernel_rfl
@[go_sem] theorem tarr_41 : tarr Try.prog 41 = (none : Option (Nat × TypeId)) := by kernel_rfl
@[go_sem] theorem tfld_41 : tfld Try.prog 41 = (none : Option (List (Nat × TypeId))) := by kernel_rfl
@[go_sem] theorem tint_41 : tint Try.prog 41 = (none : Option IntKind) := by kernel_rfl
@[go_sem] theorem tstr_41 : tstr Try.prog 41 = false := by kernel_rfl
@[go_sem] theorem tagg_41 : tagg Try.prog 41 = (some false : Option Bool) := by kernel_rfl
@[go_sem] theorem tby_41 : tby Try.prog 41 = 24 := by kernel_rfl
@[go_sem] theorem tkind_41 : tkind Try.prog 41 = (none : Option Nat) := by kernel_rfl
@[go_sem] theorem teq_41 : teq Try.prog 41 = (none : Option (List Nat)) := by kernel_rfl
@[go_sem] theorem tzA_41 : tzA Try.prog 41 = (some (AV.v (Value.slice none 0 0)) : Option AV) := by kernel_rfl
@[go_sem] theorem tund_42 : tund Try.prog 42 = true := by kernel_rfl
@[go_sem] theorem tsz_42 : tsz Try.prog 42 = 1 := by kernel_rfl
@[go_sem] theorem tel_42 : tel Try.prog 42 = (none : Option TypeId) := by kernel_rfl
@[go_sem] theorem tarr_42 : tarr Try.prog 42 = (none : Option (Nat × TypeId)) := by kernel_rfl
@[go_sem] theorem tfld_42 : tfld Try.prog 42 = (none : Option (List (Nat × TypeId))) := by kernel_rfl
@[go_sem] theorem tint_42 : tint Try.prog 42 = (none : Option IntKind) := by kernel_rfl
@[go_sem] theorem tstr_42 : tstr Try.prog 42 = false := by kernel_rfl
@[go_sem] theorem tagg_42 : tagg Try.prog 42 = (some false : Option Bool) := by kernel_rfl
@[go_sem] theorem tby_42 : tby Try.prog 42 = 8 := by kernel_rfl
@[go_sem] theorem tkind_42 : tkind Try.prog 42 = (none : Option Nat) := by kernel_rfl
@[go_sem] theorem teq_42 : teq Try.prog 42 = (none : Option (List Nat)) := by kernel_rfl
@[go_sem] theorem tzA_42 : tzA Try.prog 42 = (some (AV.v Value.nilFunc) : Option AV) := by kernel_rfl
@[go_sem] theorem tund_43 : tund Try.prog 43 = true := by kernel_rfl
@[go_sem] theorem tsz_43 : tsz Try.prog 43 = 1 := by kernel_rfl
@[go_sem] theorem tel_43 : tel Try.prog 43 = (none : Option TypeId) := by kernel_rfl
@[go_sem] theorem tarr_43 : tarr Try.prog 43 = (none : Option (Nat × TypeId)) := by kernel_rfl
@[go_sem] theorem tfld_43 : tfld Try.prog 43 = (none : Option (List (Nat × TypeId))) := by kernel_rfl
@[go_sem] theorem tint_43 : tint Try.prog 43 = (none : Option IntKind) := by kernel_rfl
@[go_sem] theorem tstr_43 : tstr Try.prog 43 = false := by kernel_rfl
@[go_sem] theorem tagg_43 : tagg Try.prog 43 = (some false : Option Bool) := by kernel_rfl
@[go_sem] theorem tby_43 : tby Try.prog 43 = 8 := by kernel_rfl
@[go_sem] theorem tkind_43 : tkind Try.prog 43 = (none : Option Nat) := by kernel_rfl
@[go_sem] theorem teq_43 : teq Try.prog 43 = (none : Option (List Nat)) := by kernel_rfl
@[go_sem] theorem tzA_43 : tzA Try.prog 43 = (some (AV.v Value.nilFunc) : Option AV) := by kernel_rfl
@[go_sem] theorem tund_44 : tund Try.prog 44 = true := by kernel_rfl
@[go_sem] theorem tsz_44 : tsz Try.prog 44 = 1 := by kernel_rfl
@[go_sem] theorem tel_44 : tel Try.prog 44 = (none : Option TypeId) := by kernel_rfl
@[go_sem] theorem tarr_44 : tarr Try.prog 44 = (none : Option (Nat × TypeId)) := by kernel_rfl
@[go_sem] theorem tfld_44 : tfld Try.prog 44 = (none : Option (List (Nat × TypeId))) := by kernel_rfl
@[go_sem] theorem tint_44 : tint Try.prog 44 = (none : Option IntKind) := by kernel_rfl
@[go_sem] theorem tstr_44 : tstr Try.prog 44 = false := by kernel_rfl
@[go_sem] theorem tagg_44 : tagg Try.prog 44 = (some false : Option Bool) := by kernel_rfl
@[go_sem] theorem tby_44 : tby Try.prog 44 = 8 := by kernel_rfl
@[go_sem] theorem tkind_44 : tkind Try.prog 44 = (none : Option Nat) := by kernel_rfl
@[go_sem] theorem teq_44 : teq Try.prog 44 = (none : Option (List Nat)) := by kernel_rfl
@[go_sem] theorem tzA_44 : tzA Try.prog 44 = (some (AV.v Value.nilFunc) : Option AV) := by kernel_rfl
@[go_sem] theorem tund_45 : tund Try.prog 45 = true := by kernel_rfl
@[go_sem] theorem tsz_45 : tsz Try.prog 45 = 1 := by kernel_rfl
@[go_sem] theorem tel_45 : tel Try.prog 45 = (none : Option TypeId) := by kernel_rfl
@[go_sem] theorem tarr_45 : tarr Try.prog 45 = (none : Option (Nat × TypeId)) := by kernel_rfl
@[go_sem] theorem tfld_45 : tfld Try.prog 45 = (none : Option (List (Nat × TypeId))) := by kernel_rfl
@[go_sem] theorem tint_45 : tint Try.prog 45 = (none : Option IntKind) := by kernel_rfl
@[go_sem] theorem tstr_45 : tstr Try.prog 45 = false := by kernel_rfl
@[go_sem] theorem tagg_45 : tagg Try.prog 45 = (some false : Option Bool) := by kernel_rfl
@[go_sem] theorem tby_45 : tby Try.prog 45 = 8 := by kernel_rfl
@[go_sem] theorem tkind_45 : tkind Try.prog 45 = (none : Option Nat) := by kernel_rfl
@[go_sem] theorem teq_45 : teq Try.prog 45 = (none : Option (List Nat)) := by kernel_rfl
@[go_sem] theorem tzA_45 : tzA Try.prog 45 = (some (AV.v Value.nilFunc) : Option AV) := by kernel_rfl
@[go_sem] theorem tund_46 : tund Try.prog 46 = true := by kernel_rfl
@[go_sem] theorem tsz_46 : tsz Try.prog 46 = 1 := by kernel_rfl
@[go_sem] theorem tel_46 : tel Try.prog 46 = (none : Option TypeId) := by kernel_rfl
@[go_sem] theorem tarr_46 : tarr Try.prog 46 = (none : Option (Nat × TypeId)) := by kernel_rfl
@[go_sem] theorem tfld_46 : tfld Try.prog 46 = (none : Option (List (Nat × TypeId))) := by kernel_rfl
@[go_sem] theorem tint_46 : tint Try.prog 46 = (none : Option IntKind) := by kernel_rfl
@[go_sem] theorem tstr_46 : tstr Try.prog 46 = false := by kernel_rfl
@[go_sem] theorem tagg_46 : tagg Try.prog 46 = (some false : Option Bool) := by kernel_rfl
@[go_sem] theorem tby_46 : tby Try.prog 46 = 8 := by kernel_rfl
@[go_sem] theorem tkind_46 : tkind Try.prog 46 = (none : Option Nat) := by kernel_rfl
@[go_sem] theorem teq_46 : teq Try.prog 46 = (none : Option (List Nat)) := by kernel_rfl
@[go_sem] theorem tzA_46 : tzA Try.prog 46 = (some (AV.v Value.nilFunc) : Option AV) := by kernel_rfl
@[go_sem] theorem tund_47 : tund Try.prog 47 = true := by kernel_rfl
@[go_sem] theorem tsz_47 : tsz Try.prog 47 = 1 := by kernel_rfl
@[go_sem] theorem tel_47 : tel Try.prog 47 = (none : Option TypeId) := by kernel_rfl
@[go_sem] theorem tarr_47 : tarr Try.prog 47 = (none : Option (Nat × TypeId)) := by kernel_rfl
@[go_sem] theorem tfld_47 : tfld Try.prog 47 = (none : Option (List (Nat × TypeId))) := by kernel_rfl
@[go_sem] theorem tint_47 : tint Try.prog 47 = (none : Option IntKind) := by kernel_rfl
@[go_sem] theorem tstr_47 : tstr Try.prog 47 = false := by kernel_rfl
@[go_sem] theorem tagg_47 : tagg Try.prog 47 = (some false : Option Bool) := by kernel_rfl
@[go_sem] theorem tby_47 : tby Try.prog 47 = 8 := by kernel_rfl
@[go_sem] theorem tkind_47 : tkind Try.prog 47 = (none : Option Nat) := by kernel_rfl
@[go_sem] theorem teq_47 : teq Try.prog 47 = (none : Option (List Nat)) := by kernel_rfl
@[go_sem] theorem tzA_47 : tzA Try.prog 47 = (some (AV.v Value.nilFunc) : Option AV) := by kernel_rfl
@[go_sem] theorem tund_48 : tund Try.prog 48 = true := by kernel_rfl
@[go_sem] theorem tsz_48 : tsz Try.prog 48 = 1 := by kernel_rfl
@[go_sem] theorem tel_48 : tel Try.prog 48 = (none : Option TypeId) := by kernel_rfl
@[go_sem] theorem tarr_48 : tarr Try.prog 48 = (none : Option (Nat × TypeId)) := by kernel_rfl
@[go_sem] theorem tfld_48 : tfld Try.prog 48 = (none : Option (List (Nat × TypeId))) := by kernel_rfl
@[go_sem] theorem tint_48 : tint Try.prog 48 = (none : Option IntKind) := by kernel_rfl
@[go_sem] theorem tstr_48 : tstr Try.prog 48 = false := by kernel_rfl
@[go_sem] theorem tagg_48 : tagg Try.prog 48 = (some false : Option Bool) := by kernel_rfl
@[go_sem] theorem tby_48 : tby Try.prog 48 = 8 := by kernel_rfl
@[go_sem] theorem tkind_48 : tkind Try.prog 48 = (none : Option Nat) := by kernel_rfl
@[go_sem] theorem teq_48 : teq Try.prog 48 = (none : Option (List Nat)) := by kernel_rfl
@[go_sem] theorem tzA_48 : tzA Try.prog 48 = (some (AV.v Value.nilFunc) : Option AV) := by kernel_rfl
@[go_sem] theorem tund_49 : tund Try.prog 49 = true := by kernel_rfl
@[go_sem] theorem tsz_49 : tsz Try.prog 49 = 1 := by kernel_rfl
@[go_sem] theorem tel_49 : tel Try.prog 49 = (none : Option TypeId) := by kernel_rfl
@[go_sem] theorem tarr_49 : tarr Try.prog 49 = (none : Option (Nat × TypeId)) := by kernel_rfl
@[go_sem] theorem tfld_49 : tfld Try.prog 49 = (none : Option (List (Nat × TypeId))) := by kernel_rfl
@[go_sem] theorem tint_49 : tint Try.prog 49 = (none : Option IntKind) := by kernel_rfl
@[go_sem] theorem tstr_49 : tstr Try.prog 49 = false := by kernel_rfl
@[go_sem] theorem tagg_49 : tagg Try.prog 49 = (some false : Option Bool) := by kernel_rfl
@[go_sem] theorem tby_49 : tby Try.prog 49 = 8 := by kernel_rfl
@[go_sem] theorem tkind_49 : tkind Try.prog 49 = (none : Option Nat) := by kernel_rfl
@[go_sem] theorem teq_49 : teq Try.prog 49 = (none : Option (List Nat)) := by kernel_rfl
@[go_sem] theorem tzA_49 : tzA Try.prog 49 = (some (AV.v Value.nilFunc) : Option AV) := by kernel_rfl
@[go_sem] theorem tund_50 : tund Try.prog 50 = true := by kernel_rfl
@[go_sem] theorem tsz_50 : tsz Try.prog 50 = 1 := by kernel_rfl
@[go_sem] theorem tel_50 : tel Try.prog 50 = (none : Option TypeId) := by kernel_rfl
@[go_sem] theorem tarr_50 : tarr Try.prog 50 = (none : Option (Nat × TypeId)) := by kernel_rfl
@[go_sem] theorem tfld_50 : tfld Try.prog 50 = (none : Option (List (Nat × TypeId))) := by kernel_rfl
@[go_sem] theorem tint_50 : tint Try.prog 50 = (none : Option IntKind) := by kernel_rfl
@[go_sem] theorem tstr_50 : tstr Try.prog 50 = false := by kernel_rfl
@[go_sem] theorem tagg_50 : tagg Try.prog 50 = (some false : Option Bool) := by kernel_rfl
@[go_sem] theorem tby_50 : tby Try.prog 50 = 0 := by kernel_rfl
@[go_sem] theorem tkind_50 : tkind Try.prog 50 = (none : Option Nat) := by kernel_rfl
@[go_sem] theorem teq_50 : teq Try.prog 50 = (none : Option (List Nat)) := by kernel_rfl
@[go_sem] theorem tzA_50 : tzA Try.prog 50 = (some (AV.tup [AV.v (Value.slice none 0 0), AV.v (Value.slice none 0 0)]) : Option AV) := by kernel_rfl
@[go_sem] theorem tund_51 : tund Try.prog 51 = true := by kernel_rfl
@[go_sem] theorem tsz_51 : tsz Try.prog 51 = 1 := by kernel_rfl
@[go_sem] theorem tel_51 : tel Try.prog 51 = (none : Option TypeId) := by kernel_rfl
@[go_sem] theorem tarr_51 : tarr Try.prog 51 = (none : Option (Nat × TypeId)) := by kernel_rfl
@[go_sem] theorem tfld_51 : tfld Try.prog 51 = (none : Option (List (Nat × TypeId))) := by kernel_rfl
@[go_sem] theorem tint_51 : tint Try.prog 51 = (none : Option IntKind) := by kernel_rfl
@[go_sem] theorem tstr_51 : tstr Try.prog 51 = false := by kernel_rfl
@[go_sem] theorem tagg_51 : tagg Try.prog 51 = (some false : Option Bool) := by kernel_rfl
@[go_sem] theorem tby_51 : tby Try.prog 51 = 8 := by kernel_rfl
@[go_sem] theorem tkind_51 : tkind Try.prog 51 = (none : Option Nat) := by kernel_rfl
@[go_sem] theorem teq_51 : teq Try.prog 51 = (none : Option (List Nat)) := by kernel_rfl
@[go_sem] theorem tzA_51 : tzA Try.prog 51 = (some (AV.v Value.nilFunc) : Option AV) := by kernel_rfl
@[go_sem] theorem tund_52 : tund Try.prog 52 = true := by kernel_rfl
@[go_sem] theorem tsz_52 : tsz Try.prog 52 = 1 := by kernel_rfl
@[go_sem] theorem tel_52 : tel Try.prog 52 = (none : Option TypeId) := by kernel_rfl
@[go_sem] theorem tarr_52 : tarr Try.prog 52 = (none : Option (Nat × TypeId)) := by kernel_rfl
@[go_sem] theorem tfld_52 : tfld Try.prog 52 = (none : Option (List (Nat × TypeId))) := by kernel_rfl
@[go_sem] theorem tint_52 : tint Try.prog 52 = (none : Option IntKind) := by kernel_rfl
@[go_sem] theorem tstr_52 : tstr Try.prog 52 = false := by kernel_rfl
@[go_sem] theorem tagg_52 : tagg Try.prog 52 = (some false : Option Bool) := by kernel_rfl
@[go_sem] theorem tby_52 : tby Try.prog 52 = 8 := by kernel_rfl
@[go_sem] theorem tkind_52 : tkind Try.prog 52 = (none : Option Nat) := by kernel_rfl
@[go_sem] theorem teq_52 : teq Try.prog 52 = (none : Option (List Nat)) := by kernel_rfl
@[go_sem] theorem tzA_52 : tzA Try.prog 52 = (some (AV.v Value.nilFunc) : Option AV) := by kernel_rfl
@[go_sem] theorem tund_53 : tund Try.prog 53 = true := by kernel_rfl
@[go_sem] theorem tsz_53 : tsz Try.prog 53 = 1 := by kernel_rfl
@[go_sem] theorem tel_53 : tel Try.prog 53 = (none : Option TypeId) := by kernel_rfl
@[go_sem] theorem tarr_53 : tarr Try.prog 53 = (none : Option (Nat × TypeId)) := by kernel_rfl
@[go_sem] theorem tfld_53 : tfld Try.prog 53 = (none : Option (List (Nat × TypeId))) := by kernel_rfl
@[go_sem] theorem tint_53 : tint Try.prog 53 = (none : Option IntKind) := by kernel_rfl
@[go_sem] theorem tstr_53 : tstr Try.prog 53 = false := by kernel_rfl
@[go_sem] theorem tagg_53 : tagg Try.prog 53 = (some false : Option Bool) := by kernel_rfl
@[go_sem] theorem tby_53 : tby Try.prog 53 = 8 := by kernel_rfl
@[go_sem] theorem tkind_53 : tkind Try.prog 53 = (none : Option Nat) := by kernel_rfl
@[go_sem] theorem teq_53 : teq Try.prog 53 = (none : Option (List Nat)) := by kernel_rfl
@[go_sem] theorem tzA_53 : tzA Try.prog 53 = (some (AV.v Value.nilFunc) : Option AV) := by kernel_rfl
@[go_sem] theorem tund_54 : tund Try.prog 54 = true := by kernel_rfl
@[go_sem] theorem tsz_54 : tsz Try.prog 54 = 1 := by kernel_rfl
@[go_sem] theorem tel_54 : tel Try.prog 54 = (none : Option TypeId) := by kernel_rfl
@[go_sem] theorem tarr_54 : tarr Try.prog 54 = (none : Option (Nat × TypeId)) := by kernel_rfl
@[go_sem] theorem tfld_54 : tfld Try.prog 54 = (none : Option (List (Nat × TypeId))) := by kernel_rfl
@[go_sem] theorem tint_54 : tint Try.prog 54 = (none : Option IntKind) := by kernel_rfl
@[go_sem] theorem tstr_54 : tstr Try.prog 54 = false := by kernel_rfl
@[go_sem] theorem tagg_54 : tagg Try.prog 54 = (some false : Option Bool) := by kernel_rfl
@[go_sem] theorem tby_54 : tby Try.prog 54 = 8 := by kernel_rfl
@[go_sem] theorem tkind_54 : tkind Try.prog 54 = (none : Option Nat) := by kernel_rfl
@[go_sem] theorem teq_54 : teq Try.prog 54 = (none : Option (List Nat)) := by kernel_rfl
@[go_sem] theorem tzA_54 : tzA Try.prog 54 = (some (AV.v Value.nilFunc) : Option AV) := by kernel_rfl
@[go_sem] theorem tund_55 : tund Try.prog 55 = true := by kernel_rfl
@[go_sem] theorem tsz_55 : tsz Try.prog 55 = 8 := by kernel_rfl
@[go_sem] theorem tel_55 : tel Try.prog 55 = (none : Option TypeId) := by kernel_rfl
@[go_sem] theorem tarr_55 : tarr Try.prog 55 = (some (8, 3) : Option (Nat × TypeId)) := by kernel_rfl
@[go_sem] theorem tfld_55 : tfld Try.prog 55 = (none : Option (List (Nat × TypeId))) := by kernel_rfl
@[go_sem] theorem tint_55 : tint Try.prog 55 = (none : Option IntKind) := by kernel_rfl
@[go_sem] theorem tstr_55 : tstr Try.prog 55 = false := by kernel_rfl
@[go_sem] theorem tagg_55 : tagg Try.prog 55 = (some true : Option Bool) := by kernel_rfl
@[go_sem] theorem tby_55 : tby Try.prog 55 = 64 := by kernel_rfl
@[go_sem] theorem tkind_55 : tkind Try.prog 55 = (none : Option Nat) := by kernel_rfl
@[go_sem] theorem teq_55 : teq Try.prog 55 = (none : Option (List Nat)) := by kernel_rfl
@[go_sem] theorem tzA_55 : tzA Try.prog 55 = (some (AV.agg [AV.v (Value.int IntKind.i64 (0)), AV.v (Value.int IntKind.i64 (0)), AV.v (Value.int IntKind.i64 (0)), AV.v (Value.int IntKind.i64 (0)), AV.v (Value.int IntKind.i64 (0)), AV.v (Value.int IntKind.i64 (0)), AV.v (Value.int IntKind.i64 (0)), AV.v (Value.int IntKind.i64 (0))]) : Option AV) := by kernel_rfl
@[go_sem] theorem tund_56 : tund Try.prog 56 = true := by kernel_rfl
@[go_sem] theorem tsz_56 : tsz Try.prog 56 = 1 := by kernel_rfl
@[go_sem] theorem tel_56 : tel Try.prog 56 = (none : Option TypeId) := by kernel_rfl
@[go_sem] theorem tarr_56 : tarr Try.prog 56 = (none : Option (Nat × TypeId)) := by kernel_rfl
@[go_sem] theorem tfld_56 : tfld Try.prog 56 = (none : Option (List (Nat × TypeId))) := by kernel_rfl
@[go_sem] theorem tint_56 : tint Try.prog 56 = (none : Option IntKind) := by kernel_rfl
@[go_sem] theorem tstr_56 : tstr Try.prog 56 = false := by kernel_rfl
@[go_sem] theorem tagg_56 : tagg Try.prog 56 = (some false : Option Bool) := by kernel_rfl
@[go_sem] theorem tby_56 : tby Try.prog 56 = 8 := by kernel_rfl
@[go_sem] theorem tkind_56 : tkind Try.prog 56 = (none : Option Nat) := by kernel_rfl
@[go_sem] theorem teq_56 : teq Try.prog 56 = (none : Option (List Nat)) := by kernel_rfl
@[go_sem] theorem tzA_56 : tzA Try.prog 56 = (some (AV.v Value.nilFunc) : Option AV) := by kernel_rfl
@[go_sem] theorem tund_57 : tund Try.prog 57 = true := by kernel_rfl
@[go_sem] theorem tsz_57 : tsz Try.prog 57 = 1 := by kernel_rfl
@[go_sem] theorem tel_57 : tel Try.prog 57 = (none : Option TypeId) := by kernel_rfl
@[go_sem] theorem tarr_57 : tarr Try.prog 57 = (none : Option (Nat × TypeId)) := by kernel_rfl
@[go_sem] theorem tfld_57 : tfld Try.prog 57 = (none : Option (List (Nat × TypeId))) := by kernel_rfl
@[go_sem] theorem tint_57 : tint Try.prog 57 = (none : Option IntKind) := by kernel_rfl
@[go_sem] theorem tstr_57 : tstr Try.prog 57 = false := by kernel_rfl
@[go_sem] theorem tagg_57 : tagg Try.prog 57 = (some false : Option Bool) := by kernel_rfl
@[go_sem] theorem tby_57 : tby Try.prog 57 = 8 := by kernel_rfl
@[go_sem] theorem tkind_57 : tkind Try.prog 57 = (none : Option Nat) := by kernel_rfl
@[go_sem] theorem teq_57 : teq Try.prog 57 = (none : Option (List Nat)) := by kernel_rfl
@[go_sem] theorem tzA_57 : tzA Try.prog 57 = (some (AV.v Value.nilFunc) : Option AV) := by kernel_rfl
@[go_sem] theorem tund_58 : tund Try.prog 58 = true := by kernel_rfl
@[go_sem] theorem tsz_58 : tsz Try.prog 58 = 1 := by kernel_rfl
@[go_sem] theorem tel_58 : tel Try.prog 58 = (none : Option TypeId) := by kernel_rfl
@[go_sem] theorem tarr_58 : tarr Try.prog 58 = (none : Option (Nat × TypeId)) := by kernel_rfl
@[go_sem] theorem tfld_58 : tfld Try.prog 58 = (none : Option (List (Nat × TypeId))) := by kernel_rfl
@[go_sem] theorem tint_58 : tint Try.prog 58 = (none : Option IntKind) := by kernel_rfl
@[go_sem] theorem tstr_58 : tstr Try.prog 58 = false := by kernel_rfl
@[go_sem] theorem tagg_58 : tagg Try.prog 58 = (some false : Option Bool) := by kernel_rfl
@[go_sem] theorem tby_58 : tby Try.prog 58 = 8 := by kernel_rfl
@[go_sem] theorem tkind_58 : tkind Try.prog 58 = (none : Option Nat) := by kernel_rfl
@[go_sem] theorem teq_58 : teq Try.prog 58 = (none : Option (List Nat)) := by kernel_rfl
@[go_sem] theorem tzA_58 : tzA Try.prog 58 = (some (AV.v Value.nilFunc) : Option AV) := by kernel_rfl
@[go_sem] theorem tund_59 : tund Try.prog 59 = true := by kernel_rfl
@[go_sem] theorem tsz_59 : tsz Try.prog 59 = 1 := by kernel_rfl
@[go_sem] theorem tel_59 : tel Try.prog 59 = (none : Option TypeId) := by kernel_rfl
@[go_sem] theorem tarr_59 : tarr Try.prog 59 = (none : Option (Nat × TypeId)) := by kernel_rfl
@[go_sem] theorem tfld_59 : tfld Try.prog 59 = (none : Option (List (Nat × TypeId))) := by kernel_rfl
@[go_sem] theorem tint_59 : tint Try.prog 59 = (none : Option IntKind) := by kernel_rfl
@[go_sem] theorem tstr_59 : tstr Try.prog 59 = false := by kernel_rfl
@[go_sem] theorem tagg_59 : tagg Try.prog 59 = (some false : Option Bool) := by kernel_rfl
@[go_sem] theorem tby_59 : tby Try.prog 59 = 8 := by kernel_rfl
@[go_sem] theorem tkind_59 : tkind Try.prog 59 = (none : Option Nat) := by kernel_rfl
@[go_sem] theorem teq_59 : teq Try.prog 59 = (none : Option (List Nat)) := by kernel_rfl
@[go_sem] theorem tzA_59 : tzA Try.prog 59 = (some (AV.v Value.nilFunc) : Option AV) := by kernel_rfl
@[go_sem] theorem tund_60 : tund Try.prog 60 = true := by kernel_rfl
@[go_sem] theorem tsz_60 : tsz Try.prog 60 = 1 := by kernel_rfl
@[go_sem] theorem tel_60 : tel Try.prog 60 = (none : Option TypeId) := by kernel_rfl
@[go_sem] theorem tarr_60 : tarr Try.prog 60 = (none : Option (Nat × TypeId)) := by kernel_rfl
@[go_sem] theorem tfld_60 : tfld Try.prog 60 = (none : Option (List (Nat × TypeId))) := by kernel_rfl
@[go_sem] theorem tint_60 : tint Try.prog 60 = (none : Option IntKind) := by kernel_rfl
@[go_sem] theorem tstr_60 : tstr Try.prog 60 = false := by kernel_rfl
@[go_sem] theorem tagg_60 : tagg Try.prog 60 = (some false : Option Bool) := by kernel_rfl
@[go_sem] theorem tby_60 : tby Try.prog 60 = 0 := by kernel_rfl
@[go_sem] theorem tkind_60 : tkind Try.prog 60 = (none : Option Nat) := by kernel_rfl
@[go_sem] theorem teq_60 : teq Try.prog 60 = (none : Option (List Nat)) := by kernel_rfl
@[go_sem] theorem tzA_60 : tzA Try.prog 60 = (some (AV.tup [AV.v (Value.int IntKind.i64 (0)), AV.v (Value.int IntKind.i64 (0)), AV.v (Value.int IntKind.i64 (0))]) : Option AV) := by kernel_rfl
@[go_sem] theorem tund_61 : tund Try.prog 61 = true := by kernel_rfl
@[go_sem] theorem tsz_61 : tsz Try.prog 61 = 1 := by kernel_rfl
@[go_sem] theorem tel_61 : tel Try.prog 61 = (none : Option TypeId) := by kernel_rfl
@[go_sem] theorem tarr_61 : tarr Try.prog 61 = (none : Option (Nat × TypeId)) := by kernel_rfl
@[go_sem] theorem tfld_61 : tfld Try.prog 61 = (none : Option (List (Nat × TypeId))) := by kernel_rfl
@[go_sem] theorem tint_61 : tint Try.prog 61 = (none : Option IntKind) := by kernel_rfl
@[go_sem] theorem tstr_61 : tstr Try.prog 61 = false := by kernel_rfl
@[go_sem] theorem tagg_61 : tagg Try.prog 61 = (some false : Option Bool) := by kernel_rfl
@[go_sem] theorem tby_61 : tby Try.prog 61 = 8 := by kernel_rfl
@[go_sem] theorem tkind_61 : tkind Try.prog 61 = (none : Option Nat) := by kernel_rfl
@[go_sem] theorem teq_61 : teq Try.prog 61 = (none : Option (List Nat)) := by kernel_rfl
@[go_sem] theorem tzA_61 : tzA Try.prog 61 = (some (AV.v Value.nilFunc) : Option AV) := by kernel_rfl
@[go_sem] theorem tund_62 : tund Try.prog 62 = true := by kernel_rfl
@[go_sem] theorem tsz_62 : tsz Try.prog 62 = 1 := by kernel_rfl
@[go_sem] theorem tel_62 : tel Try.prog 62 = (none : Option TypeId) := by kernel_rfl
@[go_sem] theorem tarr_62 : tarr Try.prog 62 = (none : Option (Nat × TypeId)) := by kernel_rfl
@[go_sem] theorem tfld_62 : tfld Try.prog 62 = (none : Option (List (Nat × TypeId))) := by kernel_rfl
@[go_sem] theorem tint_62 : tint Try.prog 62 = (none : Option IntKind) := by kernel_rfl
@[go_sem] theorem tstr_62 : tstr Try.prog 62 = false := by kernel_rfl
@[go_sem] theorem tagg_62 : tagg Try.prog 62 = (some false : Option Bool) := by kernel_rfl
@[go_sem] theorem tby_62 : tby Try.prog 62 = 8 := by kernel_rfl
@[go_sem] theorem tkind_62 : tkind Try.prog 62 = (none : Option Nat) := by kernel_rfl
@[go_sem] theorem teq_62 : teq Try.prog 62 = (none : Option (List Nat)) := by kernel_rfl
@[go_sem] theorem tzA_62 : tzA Try.prog 62 = (some (AV.v Value.nilFunc) : Option AV) := by kernel_rfl
@[go_sem] theorem tund_63 : tund Try.prog 63 = true := by kernel_rfl
@[go_sem] theorem tsz_63 : tsz Try.prog 63 = 1 := by kernel_rfl
@[go_sem] theorem tel_63 : tel Try.prog 63 = (none : Option TypeId) := by kernel_rfl
@[go_sem] theorem tarr_63 : tarr Try.prog 63 = (none : Option (Nat × TypeId)) := by kernel_rfl
@[go_sem] theorem tfld_63 : tfld Try.prog 63 = (none : Option (List (Nat × TypeId))) := by kernel_rfl
@[go_sem] theorem tint_63 : tint Try.prog 63 = (none : Option IntKind) := by kernel_rfl
@[go_sem] theorem tstr_63 : tstr Try.prog 63 = false := by kernel_rfl
@[go_sem] theorem tagg_63 : tagg Try.prog 63 = (some false : Option Bool) := by kernel_rfl
@[go_sem] theorem tby_63 : tby Try.prog 63 = 8 := by kernel_rfl
@[go_sem] theorem tkind_63 : tkind Try.prog 63 = (none : Option Nat) := by kernel_rfl
@[go_sem] theorem teq_63 : teq Try.prog 63 = (none : Option (List Nat)) := by kernel_rfl
@[go_sem] theorem tzA_63 : tzA Try.prog 63 = (some (AV.v Value.nilFunc) : Option AV) := by kernel_rfl
@[go_sem] theorem tund_64 : tund Try.prog 64 = true := by kernel_rfl
@[go_sem] theorem tsz_64 : tsz Try.prog 64 = 1 := by kernel_rfl
@[go_sem] theorem tel_64 : tel Try.prog 64 = (none : Option TypeId) := by kernel_rfl
@[go_sem] theorem tarr_64 : tarr Try.prog 64 = (none : Option (Nat × TypeId)) := by kernel_rfl
@[go_sem] theorem tfld_64 : tfld Try.prog 64 = (none : Option (List (Nat × TypeId))) := by kernel_rfl
@[go_sem] theorem tint_64 : tint Try.prog 64 = (none : Option IntKind) := by kernel_rfl
@[go_sem] theorem tstr_64 : tstr Try.prog 64 = false := by kernel_rfl
@[go_sem] theorem tagg_64 : tagg Try.prog 64 = (some false : Option Bool) := by kernel_rfl
@[go_sem] theorem tby_64 : tby Try.prog 64 = 8 := by kernel_rfl
@[go_sem] theorem tkind_64 : tkind Try.prog 64 = (none : Option Nat) := by kernel_rfl
@[go_sem] theorem teq_64 : teq Try.prog 64 = (none : Option (List Nat)) := by kernel_rfl
@[go_sem] theorem tzA_64 : tzA Try.prog 64 = (some (AV.v Value.nilFunc) : Option AV) := by kernel_rfl
@[go_sem] theorem tund_65 : tund Try.prog 65 = true := by kernel_rfl
@[go_sem] theorem tsz_65 : tsz Try.prog 65 = 1 := by kernel_rfl
@[go_sem] theorem tel_65 : tel Try.prog 65 = (none : Option TypeId) := by kernel_rfl
@[go_sem] theorem tarr_65 : tarr Try.prog 65 = (none : Option (Nat × TypeId)) := by kernel_rfl
@[go_sem] theorem tfld_65 : tfld Try.prog 65 = (none : Option (List (Nat × TypeId))) := by kernel_rfl
@[go_sem] theorem tint_65 : tint Try.prog 65 = (none : Option IntKind) := by kernel_rfl
@[go_sem] theorem tstr_65 : tstr Try.prog 65 = false := by kernel_rfl
@[go_sem] theorem tagg_65 : tagg Try.prog 65 = (some false : Option Bool) := by kernel_rfl
@[go_sem] theorem tby_65 : tby Try.prog 65 = 8 := by kernel_rfl
@[go_sem] theorem tkind_65 : tkind Try.prog 65 = (none : Option Nat) := by kernel_rfl
@[go_sem] theorem teq_65 : teq Try.prog 65 = (none : Option (List Nat)) := by kernel_rfl
@[go_sem] theorem tzA_65 : tzA Try.prog 65 = (some (AV.v Value.nilFunc) : Option AV) := by kernel_rfl
@[go_sem] theorem tund_66 : tund Try.prog 66 = true := by kernel_rfl
@[go_sem] theorem tsz_66 : tsz Try.prog 66 = 1 := by kernel_rfl
@[go_sem] theorem tel_66 : tel Try.prog 66 = (none : Option TypeId) := by kernel_rfl
@[go_sem] theorem tarr_66 : tarr Try.prog 66 = (none : Option (Nat × TypeId)) := by kernel_rfl
@[go_sem] theorem tfld_66 : tfld Try.prog 66 = (none : Option (List (Nat × TypeId))) := by kernel_rfl
@[go_sem] theorem tint_66 : tint Try.prog 66 = (none : Option IntKind) := by kernel_rfl
@[go_sem] theorem tstr_66 : tstr Try.prog 66 = false := by kernel_rfl
@[go_sem] theorem tagg_66 : tagg Try.prog 66 = (some false : Option Bool) := by kernel_rfl
@[go_sem] theorem tby_66 : tby Try.prog 66 = 8 := by kernel_rfl
@[go_sem] theorem tkind_66 : tkind Try.prog 66 = (none : Option Nat) := by kernel_rfl
@[go_sem] theorem teq_66 : teq Try.prog 66 = (none : Option (List Nat)) := by kernel_rfl
@[go_sem] theorem tzA_66 : tzA Try.prog 66 = (some (AV.v Value.nilFunc) : Option AV) := by kernel_rfl
@[go_sem] theorem tund_67 : tund Try.prog 67 = true := by kernel_rfl
@[go_sem] theorem tsz_67 : tsz Try.prog 67 = 1 := by kernel_rfl
@[go_sem] theorem tel_67 : tel Try.prog 67 = (none : Option TypeId) := by kernel_rfl
@[go_sem] theorem tarr_67 : tarr Try.prog 67 = (none : Option (Nat × TypeId)) := by kernel_rfl
@[go_sem] theorem tfld_67 : tfld Try.prog 67 = (none : Option (List (Nat × TypeId))) := by kernel_rfl
@[go_sem] theorem tint_67 : tint Try.prog 67 = (none : Option IntKind) := by kernel_rfl
@[go_sem] theorem tstr_67 : tstr Try.prog 67 = false := by kernel_rfl
@[go_sem] theorem tagg_67 : tagg Try.prog 67 = (some false : Option Bool) := by kernel_rfl
@[go_sem] theorem tby_67 : tby Try.prog 67 = 8 := by kernel_rfl
@[go_sem] theorem tkind_67 : tkind Try.prog 67 = (none : Option Nat) := by kernel_rfl
@[go_sem] theorem teq_67 : teq Try.prog 67 = (none : Option (List Nat)) := by kernel_rfl
@[go_sem] theorem tzA_67 : tzA Try.prog 67 = (some (AV.v Value.nilFunc) : Option AV) := by kernel_rfl
@[go_sem] theorem tund_68 : tund Try.prog 68 = true := by kernel_rfl
@[go_sem] theorem tsz_68 : tsz Try.prog 68 = 1 := by kernel_rfl
@[go_sem] theorem tel_68 : tel Try.prog 68 = (none : Option TypeId) := by kernel_rfl
@[go_sem] theorem tarr_68 : tarr Try.prog 68 = (none : Option (Nat × TypeId)) := by kernel_rfl
@[go_sem] theorem tfld_68 : tfld Try.prog 68 = (none : Option (List (Nat × TypeId))) := by kernel_rfl
@[go_sem] theorem tint_68 : tint Try.prog 68 = (none : Option IntKind) := by kernel_rfl
@[go_sem] theorem tstr_68 : tstr Try.prog 68 = false := by kernel_rfl
@[go_sem] theorem tagg_68 : tagg Try.prog 68 = (some false : Option Bool) := by kernel_rfl
@[go_sem] theorem tby_68 : tby Try.prog 68 = 8 := by kernel_rfl
@[go_sem] theorem tkind_68 : tkind Try.prog 68 = (none : Option Nat) := by kernel_rfl
@[go_sem] theorem teq_68 : teq Try.prog 68 = (none : Option (List Nat)) := by kernel_rfl
@[go_sem] theorem tzA_68 : tzA Try.prog 68 = (some (AV.v Value.nilFunc) : Option AV) := by kernel_rfl
@[go_sem] theorem tund_69 : tund Try.prog 69 = true := by kernel_rfl
@[go_sem] theorem tsz_69 : tsz Try.prog 69 = 1 := by kernel_rfl
@[go_sem] theorem tel_69 : tel Try.prog 69 = (none : Option TypeId) := by kernel_rfl
@[go_sem] theorem tarr_69 : tarr Try.prog 69 = (none : Option (Nat × TypeId)) := by kernel_rfl
@[go_sem] theorem tfld_69 : tfld Try.prog 69 = (none : Option (List (Nat × TypeId))) := by kernel_rfl
@[go_sem] theorem tint_69 : tint Try.prog 69 = (none : Option IntKind) := by kernel_rfl
@[go_sem] theorem tstr_69 : tstr Try.prog 69 = false := by kernel_rfl
@[go_sem] theorem tagg_69 : tagg Try.prog 69 = (some false : Option Bool) := by kernel_rfl
@[go_sem] theorem tby_69 : tby Try.prog 69 = 8 := by kernel_rfl
@[go_sem] theorem tkind_69 : tkind Try.prog 69 = (none : Option Nat) := by kernel_rfl
@[go_sem] theorem teq_69 : teq Try.prog 69 = (none : Option (List Nat)) := by kernel_rfl
@[go_sem] theorem tzA_69 : tzA Try.prog 69 = (some (AV.v Value.nilFunc) : Option AV) := by kernel_rfl
@[go_sem] theorem tund_70 : tund Try.prog 70 = true := by kernel_rfl
@[go_sem] theorem tsz_70 : tsz Try.prog 70 = 1 := by kernel_rfl
@[go_sem] theorem tel_70 : tel Try.prog 70 = (none : Option TypeId) := by kernel_rfl
@[go_sem] theorem tarr_70 : tarr Try.prog 70 = (none : Option (Nat × TypeId)) := by kernel_rfl
@[go_sem] theorem tfld_70 : tfld Try.prog 70 = (none : Option (List (Nat × TypeId))) := by kernel_rfl
@[go_sem] theorem tint_70 : tint Try.prog 70 = (none : Option IntKind) := by kernel_rfl
@[go_sem] theorem tstr_70 : tstr Try.prog 70 = false := by kernel_rfl
@[go_sem] theorem tagg_70 : tagg Try.prog 70 = (some false : Option Bool) := by kernel_rfl
@[go_sem] theorem tby_70 : tby Try.prog 70 = 8 := by kernel_rfl
@[go_sem] theorem tkind_70 : tkind Try.prog 70 = (none : Option Nat) := by kernel_rfl
@[go_sem] theorem teq_70 : teq Try.prog 70 = (none : Option (List Nat)) := by kernel_rfl
@[go_sem] theorem tzA_70 : tzA Try.prog 70 = (some (AV.v Value.nilFunc) : Option AV) := by kernel_rfl
@[go_sem] theorem tund_71 : tund Try.prog 71 = true := by kernel_rfl
@[go_sem] theorem tsz_71 : tsz Try.prog 71 = 4 := by kernel_rfl
@[go_sem] theorem tel_71 : tel Try.prog 71 = (none : Option TypeId) := by kernel_rfl
@[go_sem] theorem tarr_71 : tarr Try.prog 71 = (none : Option (Nat × TypeId)) := by kernel_rfl
@[go_sem] theorem tfld_71 : tfld Try.prog 71 = (some [(0, 17), (1, 17), (2, 17), (3, 9)] : Option (List (Nat × TypeId))) := by kernel_rfl
@[go_sem] theorem tint_71 : tint Try.prog 71 = (none : Option IntKind) := by kernel_rfl
@[go_sem] theorem tstr_71 : tstr Try.prog 71 = false := by kernel_rfl
@[go_sem] theorem tagg_71 : tagg Try.prog 71 = (some true : Option Bool) := by kernel_rfl
@[go_sem] theorem tby_71 : tby Try.prog 71 = 40 := by kernel_rfl
@[go_sem] theorem tkind_71 : tkind Try.prog 71 = (none : Option Nat) := by kernel_rfl
@[go_sem] theorem teq_71 : teq Try.prog 71 = (none : Option (List Nat)) := by kernel_rfl
@[go_sem] theorem tzA_71 : tzA Try.prog 71 = (some (AV.agg [AV.v (Value.pointer none), AV.v (Value.pointer none), AV.v (Value.pointer none), AV.v (Value.string ByteArray.empty)]) : Option AV) := by kernel_rfl
@[go_sem] theorem tund_72 : tund Try.prog 72 = true := by kernel_rfl
@[go_sem] theorem tsz_72 : tsz Try.prog 72 = 4 := by kernel_rfl
@[go_sem] theorem tel_72 : tel Try.prog 72 = (none : Option TypeId) := by kernel_rfl
@[go_sem] theorem tarr_72 : tarr Try.prog 72 = (none : Option (Nat × TypeId)) := by kernel_rfl
@[go_sem] theorem tfld_72 : tfld Try.prog 72 = (some [(0, 17), (1, 17), (2, 17), (3, 9)] : Option (List (Nat × TypeId))) := by kernel_rfl
@[go_sem] theorem tint_72 : tint Try.prog 72 = (none : Option IntKind) := by kernel_rfl
@[go_sem] theorem tstr_72 : tstr Try.prog 72 = false := by kernel_rfl
@[go_sem] theorem tagg_72 : tagg Try.prog 72 = (some true : Option Bool) := by kernel_rfl
@[go_sem] theorem tby_72 : tby Try.prog 72 = 40 := by kernel_rfl
@[go_sem] theorem tkind_72 : tkind Try.prog 72 = (none : Option Nat) := by kernel_rfl
@[go_sem] theorem teq_72 : teq Try.prog 72 = (none : Option (List Nat)) := by kernel_rfl
@[go_sem] theorem tzA_72 : tzA Try.prog 72 = (some (AV.agg [AV.v (Value.pointer none), AV.v (Value.pointer none), AV.v (Value.pointer none), AV.v (Value.string ByteArray.empty)]) : Option AV) := by kernel_rfl
@[go_sem] theorem tund_73 : tund Try.prog 73 = true := by kernel_rfl
@[go_sem] theorem tsz_73 : tsz Try.prog 73 = 0 := by kernel_rfl
@[go_sem] theorem tel_73 : tel Try.prog 73 = (none : Option TypeId) := by kernel_rfl
@[go_sem] theorem tarr_73 : tarr Try.prog 73 = (some (0, 16) : Option (Nat × TypeId)) := by kernel_rfl
@[go_sem] theorem tfld_73 : tfld Try.prog 73 = (none : Option (List (Nat × TypeId))) := by kernel_rfl
@[go_sem] theorem tint_73 : tint Try.prog 73 = (none : Option IntKind) := by kernel_rfl
@[go_sem] theorem tstr_73 : tstr Try.prog 73 = false := by kernel_rfl
@[go_sem] theorem tagg_73 : tagg Try.prog 73 = (some true : Option Bool) := by kernel_rfl
@[go_sem] theorem tby_73 : tby Try.prog 73 = 0 := by kernel_rfl
@[go_sem] theorem tkind_73 : tkind Try.prog 73 = (none : Option Nat) := by kernel_rfl
@[go_sem] theorem teq_73 : teq Try.prog 73 = (none : Option (List Nat)) := by kernel_rfl
@[go_sem] theorem tzA_73 : tzA Try.prog 73 = (some (AV.agg []) : Option AV) := by kernel_rfl
@[go_sem] theorem tund_74 : tund Try.prog 74 = true := by kernel_rfl
@[go_sem] theorem tsz_74 : tsz Try.prog 74 = 0 := by kernel_rfl
@[go_sem] theorem tel_74 : tel Try.prog 74 = (none : Option TypeId) := by kernel_rfl
@[go_sem] theorem tarr_74 : tarr Try.prog 74 = (none : Option (Nat × TypeId)) := by kernel_rfl
@[go_sem] theorem tfld_74 : tfld Try.prog 74 = (some [(0, 73)] : Option (List (Nat × TypeId))) := by kernel_rfl
@[go_sem] theorem tint_74 : tint Try.prog 74 = (none : Option IntKind) := by kernel_rfl
@[go_sem] theorem tstr_74 : tstr Try.prog 74 = false := by kernel_rfl
@[go_sem] theorem tagg_74 : tagg Try.prog 74 = (some true : Option Bool) := by kernel_rfl
@[go_sem] theorem tby_74 : tby Try.prog 74 = 0 := by kernel_rfl
@[go_sem] theorem tkind_74 : tkind Try.prog 74 = (none : Option Nat) := by kernel_rfl
@[go_sem] theorem teq_74 : teq Try.prog 74 = (none : Option (List Nat)) := by kernel_rfl
@[go_sem] theorem tzA_74 : tzA Try.prog 74 = (some (AV.agg []) : Option AV) := by kernel_rfl
@[go_sem] theorem tund_75 : tund Try.prog 75 = true := by kernel_rfl
@[go_sem] theorem tsz_75 : tsz Try.prog 75 = 0 := by kernel_rfl
@[go_sem] theorem tel_75 : tel Try.prog 75 = (none : Option TypeId) := by kernel_rfl
@[go_sem] theorem tarr_75 : tarr Try.prog 75 = (none : Option (Nat × TypeId)) := by kernel_rfl
@[go_sem] theorem tfld_75 : tfld Try.prog 75 = (some [(0, 73)] : Option (List (Nat × TypeId))) := by kernel_rfl
@[go_sem] theorem tint_75 : tint Try.prog 75 = (none : Option IntKind) := by kernel_rfl
@[go_sem] theorem tstr_75 : tstr Try.prog 75 = false := by kernel_rfl
@[go_sem] theorem tagg_75 : tagg Try.prog 75 = (some true : Option Bool) := by kernel_rfl
@[go_sem] theorem tby_75 : tby Try.prog 75 = 0 := by kernel_rfl
@[go_sem] theorem tkind_75 : tkind Try.prog 75 = (none : Option Nat) := by kernel_rfl
@[go_sem] theorem teq_75 : teq Try.prog 75 = (none : Option (List Nat)) := by kernel_rfl
@[go_sem] theorem tzA_75 : tzA Try.prog 75 = (some (AV.agg []) : Option AV) := by kernel_rfl
@[go_sem] theorem tund_76 : tund Try.prog 76 = true := by kernel_rfl
@[go_sem] theorem tsz_76 : tsz Try.prog 76 = 1 := by kernel_rfl
@[go_sem] theorem tel_76 : tel Try.prog 76 = (none : Option TypeId) := by kernel_rfl
@[go_sem] theorem tarr_76 : tarr Try.prog 76 = (none : Option (Nat × TypeId)) := by kernel_rfl
@[go_sem] theorem tfld_76 : tfld Try.prog 76 = (none : Option (List (Nat × TypeId))) := by kernel_rfl
@[go_sem] theorem tint_76 : tint Try.prog 76 = (none : Option IntKind) := by kernel_rfl
@[go_sem] theorem tstr_76 : tstr Try.prog 76 = false := by kernel_rfl
@[go_sem] theorem tagg_76 : tagg Try.prog 76 = (some false : Option Bool) := by kernel_rfl
@[go_sem] theorem tby_76 : tby Try.prog 76 = 8 := by kernel_rfl
@[go_sem] theorem tkind_76 : tkind Try.prog 76 = (none : Option Nat) := by kernel_rfl
@[go_sem] theorem teq_76 : teq Try.prog 76 = (none : Option (List Nat)) := by kernel_rfl
@[go_sem] theorem tzA_76 : tzA Try.prog 76 = (some (AV.v Value.nilFunc) : Option AV) := by kernel_rfl
@[go_sem] theorem tund_77 : tund Try.prog 77 = true := by kernel_rfl
@[go_sem] theorem tsz_77 : tsz Try.prog 77 = 1 := by kernel_rfl
@[go_sem] theorem tel_77 : tel Try.prog 77 = (none : Option TypeId) := by kernel_rfl
@[go_sem] theorem tarr_77 : tarr Try.prog 77 = (none : Option (Nat × TypeId)) := by kernel_rfl
@[go_sem] theorem tfld_77 : tfld Try.prog 77 = (none : Option (List (Nat × TypeId))) := by kernel_rfl
@[go_sem] theorem tint_77 : tint Try.prog 77 = (some IntKind.u32 : Option IntKind) := by kernel_rfl
@[go_sem] theorem tstr_77 : tstr Try.prog 77 = false := by kernel_rfl
@[go_sem] theorem tagg_77 : tagg Try.prog 77 = (some false : Option Bool) := by kernel_rfl
@[go_sem] theorem tby_77 : tby Try.prog 77 = 4 := by kernel_rfl
@[go_sem] theorem tkind_77 : tkind Try.prog 77 = (some 0 : Option Nat) := by kernel_rfl
@[go_sem] theorem teq_77 : teq Try.prog 77 = (none : Option (List Nat)) := by kernel_rfl
@[go_sem] theorem tzA_77 : tzA Try.prog 77 = (some (AV.v (Value.int IntKind.u32 (0))) : Option AV) := by kernel_rfl
@[go_sem] theorem tund_78 : tund Try.prog 78 = true := by kernel_rfl
@[go_sem] theorem tsz_78 : tsz Try.prog 78 = 1 := by kernel_rfl
@[go_sem] theorem tel_78 : tel Try.prog 78 = (none : Option TypeId) := by kernel_rfl
@[go_sem] theorem tarr_78 : tarr Try.prog 78 = (none : Option (Nat × TypeId)) := by kernel_rfl
@[go_sem] theorem tfld_78 : tfld Try.prog 78 = (none : Option (List (Nat × TypeId))) := by kernel_rfl
@[go_sem] theorem tint_78 : tint Try.prog 78 = (some IntKind.u8 : Option IntKind) := by kernel_rfl
@[go_sem] theorem tstr_78 : tstr Try.prog 78 = false := by kernel_rfl
@[go_sem] theorem tagg_78 : tagg Try.prog 78 = (some false : Option Bool) := by kernel_rfl
@[go_sem] theorem tby_78 : tby Try.prog 78 = 1 := by kernel_rfl
@[go_sem] theorem tkind_78 : tkind Try.prog 78 = (some 0 : Option Nat) := by kernel_rfl
@[go_sem] theorem teq_78 : teq Try.prog 78 = (none : Option (List Nat)) := by kernel_rfl
@[go_sem] theorem tzA_78 : tzA Try.prog 78 = (some (AV.v (Value.int IntKind.u8 (0))) : Option AV) := by kernel_rfl
@[go_sem] theorem tund_79 : tund Try.prog 79 = true := by kernel_rfl
@[go_sem] theorem tsz_79 : tsz Try.prog 79 = 1 := by kernel_rfl
@[go_sem] theorem tel_79 : tel Try.prog 79 = (none : Option TypeId) := by kernel_rfl
@[go_sem] theorem tarr_79 : tarr Try.prog 79 = (none : Option (Nat × TypeId)) := by kernel_rfl
@[go_sem] theorem tfld_79 : tfld Try.prog 79 = (none : Option (List (Nat × TypeId))) := by kernel_rfl
@[go_sem] theorem tint_79 : tint Try.prog 79 = (some IntKind.u8 : Option IntKind) := by kernel_rfl
@[go_sem] theorem tstr_79 : tstr Try.prog 79 = false := by kernel_rfl
@[go_sem] theorem tagg_79 : tagg Try.prog 79 = (some false : Option Bool) := by kernel_rfl
@[go_sem] theorem tby_79 : tby Try.prog 79 = 1 := by kernel_rfl
@[go_sem] theorem tkind_79 : tkind Try.prog 79 = (some 0 : Option Nat) := by kernel_rfl
@[go_sem] theorem teq_79 : teq Try.prog 79 = (none : Option (List Nat)) := by kernel_rfl
@[go_sem] theorem tzA_79 : tzA Try.prog 79 = (some (AV.v (Value.int IntKind.u8 (0))) : Option AV) := by kernel_rfl
@[go_sem] theorem tund_80 : tund Try.prog 80 = true := by kernel_rfl
@[go_sem] theorem tsz_80 : tsz Try.prog 80 = 1 := by kernel_rfl
@[go_sem] theorem tel_80 : tel Try.prog 80 = (none : Option TypeId) := by kernel_rfl
@[go_sem] theorem tarr_80 : tarr Try.prog 80 = (none : Option (Nat × TypeId)) := by kernel_rfl
@[go_sem] theorem tfld_80 : tfld Try.prog 80 = (none : Option (List (Nat × TypeId))) := by kernel_rfl
@[go_sem] theorem tint_80 : tint Try.prog 80 = (none : Option IntKind) := by kernel_rfl
@[go_sem] theorem tstr_80 : tstr Try.prog 80 = false := by kernel_rfl
@[go_sem] theorem tagg_80 : tagg Try.prog 80 = (some false : Option Bool) := by kernel_rfl
@[go_sem] theorem tby_80 : tby Try.prog 80 = 8 := by kernel_rfl
@[go_sem] theorem tkind_80 : tkind Try.prog 80 = (none : Option Nat) := by kernel_rfl
@[go_sem] theorem teq_80 : teq Try.prog 80 = (none : Option (List Nat)) := by kernel_rfl
@[go_sem] theorem tzA_80 : tzA Try.prog 80 = (some (AV.v Value.nilFunc) : Option AV) := by kernel_rfl
@[go_sem] theorem tund_81 : tund Try.prog 81 = true := by kernel_rfl
@[go_sem] theorem tsz_81 : tsz Try.prog 81 = 1 := by kernel_rfl
@[go_sem] theorem tel_81 : tel Try.prog 81 = (none : Option TypeId) := by kernel_rfl
@[go_sem] theorem tarr_81 : tarr Try.prog 81 = (none : Option (Nat × TypeId)) := by kernel_rfl
@[go_sem] theorem tfld_81 : tfld Try.prog 81 = (none : Option (List (Nat × TypeId))) := by kernel_rfl
@[go_sem] theorem tint_81 : tint Try.prog 81 = (none : Option IntKind) := by kernel_rfl
@[go_sem] theorem tstr_81 : tstr Try.prog 81 = false := by kernel_rfl
@[go_sem] theorem tagg_81 : tagg Try.prog 81 = (some false : Option Bool) := by kernel_rfl
@[go_sem] theorem tby_81 : tby Try.prog 81 = 8 := by kernel_rfl
@[go_sem] theorem tkind_81 : tkind Try.prog 81 = (none : Option Nat) := by kernel_rfl
@[go_sem] theorem teq_81 : teq Try.prog 81 = (none : Option (List Nat)) := by kernel_rfl
@[go_sem] theorem tzA_81 : tzA Try.prog 81 = (some (AV.v (Value.pointer none)) : Option AV) := by kernel_rfl
@[go_sem] theorem tund_82 : tund Try.prog 82 = true := by kernel_rfl
@[go_sem] theorem tsz_82 : tsz Try.prog 82 = 1 := by kernel_rfl
@[go_sem] theorem tel_82 : tel Try.prog 82 = (none : Option TypeId) := by kernel_rfl
@[go_sem] theorem tarr_82 : tarr Try.prog 82 = (none : Option (Nat × TypeId)) := by kernel_rfl
@[go_sem] theorem tfld_82 : tfld Try.prog 82 = (none : Option (List (Nat × TypeId))) := by kernel_rfl
@[go_sem] theorem tint_82 : tint Try.prog 82 = (some IntKind.i32 : Option IntKind) := by kernel_rfl
@[go_sem] theorem tstr_82 : tstr Try.prog 82 = false := by kernel_rfl
@[go_sem] theorem tagg_82 : tagg Try.prog 82 = (some false : Option Bool) := by kernel_rfl
@[go_sem] theorem tby_82 : tby Try.prog 82 = 4 := by kernel_rfl
@[go_sem] theorem tkind_82 : tkind Try.prog 82 = (some 0 : Option Nat) := by kernel_rfl
@[go_sem] theorem teq_82 : teq Try.prog 82 = (none : Option (List Nat)) := by kernel_rfl
@[go_sem] theorem tzA_82 : tzA Try.prog 82 = (some (AV.v (Value.int IntKind.i32 (0))) : Option AV) := by kernel_rfl
@[go_sem] theorem tund_83 : tund Try.prog 83 = true := by kernel_rfl
@[go_sem] theorem tsz_83 : tsz Try.prog 83 = 1 := by kernel_rfl
@[go_sem] theorem tel_83 : tel Try.prog 83 = (none : Option TypeId) := by kernel_rfl
@[go_sem] theorem tarr_83 : tarr Try.prog 83 = (none : Option (Nat × TypeId)) := by kernel_rfl
@[go_sem] theorem tfld_83 : tfld Try.prog 83 = (none : Option (List (Nat × TypeId))) := by kernel_rfl
@[go_sem] theorem tint_83 : tint Try.prog 83 = (some IntKind.i32 : Option IntKind) := by kernel_rfl
@[go_sem] theorem tstr_83 : tstr Try.prog 83 = false := by kernel_rfl
@[go_sem] theorem tagg_83 : tagg Try.prog 83 = (some false : Option Bool) := by kernel_rfl
@[go_sem] theorem tby_83 : tby Try.prog 83 = 4 := by kernel_rfl
@[go_sem] theorem tkind_83 : tkind Try.prog 83 = (some 0 : Option Nat) := by kernel_rfl
@[go_sem] theorem teq_83 : teq Try.prog 83 = (none : Option (List Nat)) := by kernel_rfl
@[go_sem] theorem tzA_83 : tzA Try.prog 83 = (some (AV.v (Value.int IntKind.i32 (0))) : Option AV) := by kernel_rfl
@[go_sem] theorem tund_84 : tund Try.prog 84 = true := by kernel_rfl
@[go_sem] theorem tsz_84 : tsz Try.prog 84 = 11 := by kernel_rfl
@[go_sem] theorem tel_84 : tel Try.prog 84 = (none : Option TypeId) := by kernel_rfl
@[go_sem] theorem tarr_84 : tarr Try.prog 84 = (none : Option (Nat × TypeId)) := by kernel_rfl
@[go_sem] theorem tfld_84 : tfld Try.prog 84 = (some [(0, 12), (1, 12), (2, 77), (3, 78), (4, 5), (5, 5), (6, 79), (7, 80), (8, 81), (9, 82), (10, 83)] : Option (List (Nat × TypeId))) := by kernel_rfl
@[go_sem] theorem tint_84 : tint Try.prog 84 = (none : Option IntKind) := by kernel_rfl
@[go_sem] theorem tstr_84 : tstr Try.prog 84 = false := by kernel_rfl
@[go_sem] theorem tagg_84 : tagg Try.prog 84 = (some true : Option Bool) := by kernel_rfl
@[go_sem] theorem tby_84 : tby Try.prog 84 = 48 := by kernel_rfl
@[go_sem] theorem tkind_84 : tkind Try.prog 84 = (none : Option Nat) := by kernel_rfl
@[go_sem] theorem teq_84 : teq Try.prog 84 = (none : Option (List Nat)) := by kernel_rfl
@[go_sem] theorem tzA_84 : tzA Try.prog 84 = (some (AV.agg [AV.v (Value.int IntKind.u64 (0)), AV.v (Value.int IntKind.u64 (0)), AV.v (Value.int IntKind.u32 (0)), AV.v (Value.int IntKind.u8 (0)), AV.v (Value.int IntKind.u8 (0)), AV.v (Value.int IntKind.u8 (0)), AV.v (Value.int IntKind.u8 (0)), AV.v Value.nilFunc, AV.v (Value.pointer none), AV.v (Value.int IntKind.i32 (0)), AV.v (Value.int IntKind.i32 (0))]) : Option AV) := by kernel_rfl
@[go_sem] theorem tund_85 : tund Try.prog 85 = true := by kernel_rfl
@[go_sem] theorem tsz_85 : tsz Try.prog 85 = 11 := by kernel_rfl
@[go_sem] theorem tel_85 : tel Try.prog 85 = (none : Option TypeId) := by kernel_rfl
@[go_sem] theorem tarr_85 : tarr Try.prog 85 = (none : Option (Nat × TypeId)) := by kernel_rfl
@[go_sem] theorem tfld_85 : tfld Try.prog 85 = (some [(0, 12), (1, 12), (2, 77), (3, 78), (4, 5), (5, 5), (6, 79), (7, 80), (8, 81), (9, 82), (10, 83)] : Option (List (Nat × TypeId))) := by kernel_rfl
@[go_sem] theorem tint_85 : tint Try.prog 85 = (none : Option IntKind) := by kernel_rfl
@[go_sem] theorem tstr_85 : tstr Try.prog 85 = false := by kernel_rfl
@[go_sem] theorem tagg_85 : tagg Try.prog 85 = (some true : Option Bool) := by kernel_rfl
@[go_sem] theorem tby_85 : tby Try.prog 85 = 48 := by kernel_rfl
@[go_sem] theorem tkind_85 : tkind Try.prog 85 = (none : Option Nat) := by kernel_rfl
@[go_sem] theorem teq_85 : teq Try.prog 85 = (none : Option (List Nat)) := by kernel_rfl
@[go_sem] theorem tzA_85 : tzA Try.prog 85 = (some (AV.agg [AV.v (Value.int IntKind.u64 (0)), AV.v (Value.int IntKind.u64 (0)), AV.v (Value.int IntKind.u32 (0)), AV.v (Value.int IntKind.u8 (0)), AV.v (Value.int IntKind.u8 (0)), AV.v (Value.int IntKind.u8 (0)), AV.v (Value.int IntKind.u8 (0)), AV.v Value.nilFunc, AV.v (Value.pointer none), AV.v (Value.int IntKind.i32 (0)), AV.v (Value.int IntKind.i32 (0))]) : Option AV) := by kernel_rfl
@[go_sem] theorem tund_86 : tund Try.prog 86 = true := by kernel_rfl
@[go_sem] theorem tsz_86 : tsz Try.prog 86 = 1 := by kernel_rfl
@[go_sem] theorem tel_86 : tel Try.prog 86 = (none : Option TypeId) := by kernel_rfl
@[go_sem] theorem tarr_86 : tarr Try.prog 86 = (none : Option (Nat × TypeId)) := by kernel_rfl
@[go_sem] theorem tfld_86 : tfld Try.prog 86 = (none : Option (List (Nat × TypeId))) := by kernel_rfl
@[go_sem] theorem tint_86 : tint Try.prog 86 = (none : Option IntKind) := by kernel_rfl
@[go_sem] theorem tstr_86 : tstr Try.prog 86 = false := by kernel_rfl
@[go_sem] theorem tagg_86 : tagg Try.prog 86 = (some false : Option Bool) := by kernel_rfl
@[go_sem] theorem tby_86 : tby Try.prog 86 = 8 := by kernel_rfl
@[go_sem] theorem tkind_86 : tkind Try.prog 86 = (none : Option Nat) := by kernel_rfl
@[go_sem] theorem teq_86 : teq Try.prog 86 = (none : Option (List Nat)) := by kernel_rfl
@[go_sem] theorem tzA_86 : tzA Try.prog 86 = (some (AV.v (Value.pointer none)) : Option AV) := by kernel_rfl
end Go.Proofs.Ytmiahmpobpokmaa

/- The contracts of chapter 24. -/
set_option maxRecDepth 100000
set_option linter.unusedSimpArgs false
namespace Go.Proofs.Ytmiahmpobpokmaa
open Go.Vai Go Go.Proofs

theorem mo : Try.prog.follows .mixedOrders = true := by kernel_rfl

theorem pick_ev (c n : Int) (hc : R64 c) (hn : 0 < n) : Ev Try.prog 31 [I c, I n] (I (pickF c n)) := by
  obtain ⟨h1, h2⟩ := hc
  refine ev_of Try.func31 rfl (by kernel_rfl) mo (Nat.le_of_ble_eq_true rfl) ?_
  simp -implicitDefEqProofs (disch := omega) only [go_sem, ↓reduceIte, Nat.reduceEqDiff, Nat.reduceMul, Nat.reduceAdd, Nat.reduceDiv, Nat.reduceBEq, Nat.reduceLeDiff, Int.reduceToNat, Int.reduceNe, Int.reduceEq, Int.reduceLT, Int.reduceLE, Int.reduceBEq, Int.reduceBNe, ne_eq, not_true_eq_false, not_false_eq_true, decide_true, decide_false, List.length_map, Try.ntmps31]
  refine branch_mk (fun h => ?_) (fun h => ?_) <;> simp -implicitDefEqProofs (disch := omega) only [go_sem, ↓reduceIte, Nat.reduceEqDiff, Nat.reduceMul, Nat.reduceAdd, Nat.reduceDiv, Nat.reduceBEq, Nat.reduceLeDiff, Int.reduceToNat, Int.reduceNe, Int.reduceEq, Int.reduceLT, Int.reduceLE, Int.reduceBEq, Int.reduceBNe, ne_eq, not_true_eq_false, not_false_eq_true, decide_true, decide_false, List.length_map, Try.results31]
  · rw [show (0 - (c+1)) = -(c+1) from by omega]; simp [pickF, h]
  · simp [pickF, h]
theorem pick_ev' (c n : Int) (hc : R64 c) (hn : 0 < n) : Ev Try.prog 13 [I c, I n] (I (pickF c n)) := by
  obtain ⟨h1, h2⟩ := hc
  refine ev_of Try.func13 rfl (by kernel_rfl) mo (Nat.le_of_ble_eq_true rfl) ?_
  simp -implicitDefEqProofs (disch := omega) only [go_sem, ↓reduceIte, Nat.reduceEqDiff, Nat.reduceMul, Nat.reduceAdd, Nat.reduceDiv, Nat.reduceBEq, Nat.reduceLeDiff, Int.reduceToNat, Int.reduceNe, Int.reduceEq, Int.reduceLT, Int.reduceLE, Int.reduceBEq, Int.reduceBNe, ne_eq, not_true_eq_false, not_false_eq_true, decide_true, decide_false, List.length_map, Try.ntmps13]
  refine branch_mk (fun h => ?_) (fun h => ?_) <;> simp -implicitDefEqProofs (disch := omega) only [go_sem, ↓reduceIte, Nat.reduceEqDiff, Nat.reduceMul, Nat.reduceAdd, Nat.reduceDiv, Nat.reduceBEq, Nat.reduceLeDiff, Int.reduceToNat, Int.reduceNe, Int.reduceEq, Int.reduceLT, Int.reduceLE, Int.reduceBEq, Int.reduceBNe, ne_eq, not_true_eq_false, not_false_eq_true, decide_true, decide_false, List.length_map, Try.results13]
  · rw [show (0 - (c+1)) = -(c+1) from by omega]; simp [pickF, h]
  · simp [pickF, h]

theorem in_ev (n lo hi : Int) : Ev Try.prog 35 [I n, I lo, I hi] (B (inF n lo hi)) := by
  refine ev_of Try.func35 rfl (by kernel_rfl) mo (Nat.le_of_ble_eq_true rfl) ?_
  simp -implicitDefEqProofs (disch := omega) only [go_sem, ↓reduceIte, Nat.reduceEqDiff, Nat.reduceMul, Nat.reduceAdd, Nat.reduceDiv, Nat.reduceBEq, Nat.reduceLeDiff, Int.reduceToNat, Int.reduceNe, Int.reduceEq, Int.reduceLT, Int.reduceLE, Int.reduceBEq, Int.reduceBNe, ne_eq, not_true_eq_false, not_false_eq_true, decide_true, decide_false, List.length_map, Try.ntmps35]
  refine branch_mk (fun h => ?_) (fun h => ?_) <;> simp -implicitDefEqProofs (disch := omega) only [go_sem, ↓reduceIte, Nat.reduceEqDiff, Nat.reduceMul, Nat.reduceAdd, Nat.reduceDiv, Nat.reduceBEq, Nat.reduceLeDiff, Int.reduceToNat, Int.reduceNe, Int.reduceEq, Int.reduceLT, Int.reduceLE, Int.reduceBEq, Int.reduceBNe, ne_eq, not_true_eq_false, not_false_eq_true, decide_true, decide_false, List.length_map, Try.results35]
  · simp [inF, h]
  · simp [inF, h]
theorem isWithin_ev (n lo hi : Int) : Ev Try.prog 33 [I n, I lo, I hi] (B (inF n lo hi)) := by
  refine ev_of Try.func33 rfl (by kernel_rfl) mo (Nat.le_of_ble_eq_true rfl) ?_
  simp -implicitDefEqProofs (disch := omega) only [go_sem, ↓reduceIte, Nat.reduceEqDiff, Nat.reduceMul, Nat.reduceAdd, Nat.reduceDiv, Nat.reduceBEq, Nat.reduceLeDiff, Int.reduceToNat, Int.reduceNe, Int.reduceEq, Int.reduceLT, Int.reduceLE, Int.reduceBEq, Int.reduceBNe, ne_eq, not_true_eq_false, not_false_eq_true, decide_true, decide_false, List.length_map, Try.ntmps33]
  refine branch_mk (fun h => ?_) (fun h => ?_) <;> simp -implicitDefEqProofs (disch := omega) only [go_sem, ↓reduceIte, Nat.reduceEqDiff, Nat.reduceMul, Nat.reduceAdd, Nat.reduceDiv, Nat.reduceBEq, Nat.reduceLeDiff, Int.reduceToNat, Int.reduceNe, Int.reduceEq, Int.reduceLT, Int.reduceLE, Int.reduceBEq, Int.reduceBNe, ne_eq, not_true_eq_false, not_false_eq_true, decide_true, decide_false, List.length_map, Try.results33]
  · simp [inF, h]
  · simp [inF, h]

theorem isNone_ev (c : Int) : Ev Try.prog 45 [I c] (B (!inF c (-1) 7)) := by
  refine ev_of Try.func45 rfl (by kernel_rfl) mo (Nat.le_of_ble_eq_true rfl) ?_
  simp -implicitDefEqProofs (disch := omega) only [go_sem, ↓reduceIte, Nat.reduceEqDiff, Nat.reduceMul, Nat.reduceAdd, Nat.reduceDiv, Nat.reduceBEq, Nat.reduceLeDiff, Int.reduceToNat, Int.reduceNe, Int.reduceEq, Int.reduceLT, Int.reduceLE, Int.reduceBEq, Int.reduceBNe, ne_eq, not_true_eq_false, not_false_eq_true, decide_true, decide_false, List.length_map, Try.ntmps45]
  refine callC_at (isWithin_ev _ _ _) ?_
  simp -implicitDefEqProofs (disch := omega) only [go_sem, ↓reduceIte, Nat.reduceEqDiff, Nat.reduceMul, Nat.reduceAdd, Nat.reduceDiv, Nat.reduceBEq, Nat.reduceLeDiff, Int.reduceToNat, Int.reduceNe, Int.reduceEq, Int.reduceLT, Int.reduceLE, Int.reduceBEq, Int.reduceBNe, ne_eq, not_true_eq_false, not_false_eq_true, decide_true, decide_false, List.length_map, Try.results45]

/-- The first for which it is true. -/
theorem index_ev (l : List Int) (hl : l.length ≤ 1000000) : Ev Try.prog 48 [SL l, .clo 45 []] (I (findF l 0 l.length)) := by
  refine ev_of Try.func48 rfl (by kernel_rfl) mo (Nat.le_of_ble_eq_true rfl) ?_
  simp -implicitDefEqProofs (disch := omega) only [go_sem, ↓reduceIte, Nat.reduceEqDiff, Nat.reduceMul, Nat.reduceAdd, Nat.reduceDiv, Nat.reduceBEq, Nat.reduceLeDiff, Int.reduceToNat, Int.reduceNe, Int.reduceEq, Int.reduceLT, Int.reduceLE, Int.reduceBEq, Int.reduceBNe, ne_eq, not_true_eq_false, not_false_eq_true, decide_true, decide_false, List.length_map, Try.ntmps48]
  refine loopC_mk (fun n E σ => ∃ v : Nat, v + n = l.length ∧ E 0 = SL l ∧ E 1 = .clo 45 [] ∧ E 7 = I l.length ∧ E 8 = I v ∧ findF l 0 l.length = findF l v n) l.length ⟨0, by omega, ?_⟩ ?_
  · simp -implicitDefEqProofs (disch := omega) only [go_sem, ↓reduceIte, Nat.reduceEqDiff, Nat.reduceMul, Nat.reduceAdd, Nat.reduceDiv, Nat.reduceBEq, Nat.reduceLeDiff, Int.reduceToNat, Int.reduceNe, Int.reduceEq, Int.reduceLT, Int.reduceLE, Int.reduceBEq, Int.reduceBNe, ne_eq, not_true_eq_false, not_false_eq_true, decide_true, decide_false, List.length_map]
    simp
  · rintro n E σ ⟨v, hv, h0, h1, h7, h8, hall⟩
    simp -implicitDefEqProofs (disch := omega) only [go_sem, ↓reduceIte, Nat.reduceEqDiff, Nat.reduceMul, Nat.reduceAdd, Nat.reduceDiv, Nat.reduceBEq, Nat.reduceLeDiff, Int.reduceToNat, Int.reduceNe, Int.reduceEq, Int.reduceLT, Int.reduceLE, Int.reduceBEq, Int.reduceBNe, ne_eq, not_true_eq_false, not_false_eq_true, decide_true, decide_false, List.length_map, h0, h1, h7, h8]
    refine branch_mk (fun hc => ?_) (fun hc => ?_)
    · simp -implicitDefEqProofs (disch := omega) only [go_sem, ↓reduceIte, Nat.reduceEqDiff, Nat.reduceMul, Nat.reduceAdd, Nat.reduceDiv, Nat.reduceBEq, Nat.reduceLeDiff, Int.reduceToNat, Int.reduceNe, Int.reduceEq, Int.reduceLT, Int.reduceLE, Int.reduceBEq, Int.reduceBNe, ne_eq, not_true_eq_false, not_false_eq_true, decide_true, decide_false, List.length_map, h0, h1, h7, h8]
      refine callC_at (isNone_ev _) ?_
      simp -implicitDefEqProofs (disch := omega) only [go_sem, ↓reduceIte, Nat.reduceEqDiff, Nat.reduceMul, Nat.reduceAdd, Nat.reduceDiv, Nat.reduceBEq, Nat.reduceLeDiff, Int.reduceToNat, Int.reduceNe, Int.reduceEq, Int.reduceLT, Int.reduceLE, Int.reduceBEq, Int.reduceBNe, ne_eq, not_true_eq_false, not_false_eq_true, decide_true, decide_false, List.length_map, h0, h1, h7, h8]
      obtain ⟨m, rfl⟩ : ∃ m, n = m + 1 := ⟨n - 1, by omega⟩
      refine branch_mk (fun hb => ?_) (fun hb => ?_)
      · simp -implicitDefEqProofs (disch := omega) only [go_sem, ↓reduceIte, Nat.reduceEqDiff, Nat.reduceMul, Nat.reduceAdd, Nat.reduceDiv, Nat.reduceBEq, Nat.reduceLeDiff, Int.reduceToNat, Int.reduceNe, Int.reduceEq, Int.reduceLT, Int.reduceLE, Int.reduceBEq, Int.reduceBNe, ne_eq, not_true_eq_false, not_false_eq_true, decide_true, decide_false, List.length_map, Try.results48]
        rw [hall]; simp [findF, hb]
      · simp -implicitDefEqProofs (disch := omega) only [go_sem, ↓reduceIte, Nat.reduceEqDiff, Nat.reduceMul, Nat.reduceAdd, Nat.reduceDiv, Nat.reduceBEq, Nat.reduceLeDiff, Int.reduceToNat, Int.reduceNe, Int.reduceEq, Int.reduceLT, Int.reduceLE, Int.reduceBEq, Int.reduceBNe, ne_eq, not_true_eq_false, not_false_eq_true, decide_true, decide_false, List.length_map, h0, h1, h7, h8]
        refine againQ_mk m (by omega) ⟨v + 1, by omega, ?_⟩
        simp -implicitDefEqProofs (disch := omega) only [go_sem, ↓reduceIte, Nat.reduceEqDiff, Nat.reduceMul, Nat.reduceAdd, Nat.reduceDiv, Nat.reduceBEq, Nat.reduceLeDiff, Int.reduceToNat, Int.reduceNe, Int.reduceEq, Int.reduceLT, Int.reduceLE, Int.reduceBEq, Int.reduceBNe, ne_eq, not_true_eq_false, not_false_eq_true, decide_true, decide_false, List.length_map, h0, h1, h7, h8]
        refine ⟨by simp, ?_⟩
        rw [hall]; simp [findF, hb]
    · simp -implicitDefEqProofs (disch := omega) only [go_sem, ↓reduceIte, Nat.reduceEqDiff, Nat.reduceMul, Nat.reduceAdd, Nat.reduceDiv, Nat.reduceBEq, Nat.reduceLeDiff, Int.reduceToNat, Int.reduceNe, Int.reduceEq, Int.reduceLT, Int.reduceLE, Int.reduceBEq, Int.reduceBNe, ne_eq, not_true_eq_false, not_false_eq_true, decide_true, decide_false, List.length_map, Try.results48]
      have : n = 0 := by omega
      subst this; rw [hall]; rfl

theorem findF_none (l : List Int) : ∀ n v, v + n = l.length → (findF l v n < 0 ↔ ∀ i, v ≤ i → i < l.length → inF (gd l i) (-1) 7 = true)
  | 0, v, hv => by simp [findF]; intro i h1 h2; omega
  | n + 1, v, hv => by
    unfold findF
    split
    · rename_i h
      constructor
      · intro h; omega
      · intro hh; rw [hh v (by omega) (by omega)] at h; cases h
    · rename_i h
      rw [findF_none l n (v + 1) (by omega)]
      constructor
      · intro hh i h1 h2
        by_cases e : i = v
        · subst e; simpa using h
        · exact hh i (by omega) h2
      · intro hh i h1 h2; exact hh i (by omega) h2
theorem all_iff {T : Type} [Inhabited T] (l : List T) (p : T → Bool) : l.all p = true ↔ ∀ i, i < l.length → p (gd l i) = true := by
  rw [List.all_eq_true]
  constructor
  · intro h i hi; exact h _ (gd_mem l i hi)
  · intro h x hx
    obtain ⟨i, hi⟩ := List.getElem?_of_mem hx
    have hlt := (List.getElem?_eq_some_iff.1 hi).1
    have := h i hlt
    rw [gd_some l i hlt] at hi; cases hi; exact this

theorem contains_ev (l : List Int) (hl : l.length ≤ 1000000) : Ev Try.prog 46 [SL l, .clo 45 []] (B (decide (0 ≤ findF l 0 l.length))) := by
  refine ev_of Try.func46 rfl (by kernel_rfl) mo (Nat.le_of_ble_eq_true rfl) ?_
  simp -implicitDefEqProofs (disch := omega) only [go_sem, ↓reduceIte, Nat.reduceEqDiff, Nat.reduceMul, Nat.reduceAdd, Nat.reduceDiv, Nat.reduceBEq, Nat.reduceLeDiff, Int.reduceToNat, Int.reduceNe, Int.reduceEq, Int.reduceLT, Int.reduceLE, Int.reduceBEq, Int.reduceBNe, ne_eq, not_true_eq_false, not_false_eq_true, decide_true, decide_false, List.length_map, Try.ntmps46]
  refine callC_at (index_ev l hl) ?_
  simp -implicitDefEqProofs (disch := omega) only [go_sem, ↓reduceIte, Nat.reduceEqDiff, Nat.reduceMul, Nat.reduceAdd, Nat.reduceDiv, Nat.reduceBEq, Nat.reduceLeDiff, Int.reduceToNat, Int.reduceNe, Int.reduceEq, Int.reduceLT, Int.reduceLE, Int.reduceBEq, Int.reduceBNe, ne_eq, not_true_eq_false, not_false_eq_true, decide_true, decide_false, List.length_map, Try.results46]

theorem holders_find (l : List Int) (h : inF l.length 1 30 = true) : (!decide (0 ≤ findF l 0 l.length)) = holdersF l := by
  have h1 := findF_none l l.length 0 (by omega)
  have h2 := all_iff l fun c => inF c (-1) 7
  unfold holdersF
  rw [h, Bool.true_and]
  by_cases hf : findF l 0 l.length < 0
  · rw [h2.2 fun i hi => h1.1 hf i (by omega) hi]
    simp; omega
  · have : (l.all fun c => inF c (-1) 7) = false := by
      cases hh : l.all fun c => inF c (-1) 7 with
      | false => rfl
      | true => exact absurd (h1.2 fun i _ hi => h2.1 hh i hi) hf
    rw [this]; simp; omega
theorem areHolders_ev (l : List Int) (hl : l.length ≤ 9223372036854775807) : Ev Try.prog 32 [SL l] (B (holdersF l)) := by
  refine ev_of Try.func32 rfl (by kernel_rfl) mo (Nat.le_of_ble_eq_true rfl) ?_
  simp -implicitDefEqProofs (disch := omega) only [go_sem, ↓reduceIte, Nat.reduceEqDiff, Nat.reduceMul, Nat.reduceAdd, Nat.reduceDiv, Nat.reduceBEq, Nat.reduceLeDiff, Int.reduceToNat, Int.reduceNe, Int.reduceEq, Int.reduceLT, Int.reduceLE, Int.reduceBEq, Int.reduceBNe, ne_eq, not_true_eq_false, not_false_eq_true, decide_true, decide_false, List.length_map, Try.ntmps32]
  refine callC_at (isWithin_ev _ _ _) ?_
  simp -implicitDefEqProofs (disch := omega) only [go_sem, ↓reduceIte, Nat.reduceEqDiff, Nat.reduceMul, Nat.reduceAdd, Nat.reduceDiv, Nat.reduceBEq, Nat.reduceLeDiff, Int.reduceToNat, Int.reduceNe, Int.reduceEq, Int.reduceLT, Int.reduceLE, Int.reduceBEq, Int.reduceBNe, ne_eq, not_true_eq_false, not_false_eq_true, decide_true, decide_false, List.length_map]
  refine branch_mk (fun hb => ?_) (fun hb => ?_)
  · simp -implicitDefEqProofs (disch := omega) only [go_sem, ↓reduceIte, Nat.reduceEqDiff, Nat.reduceMul, Nat.reduceAdd, Nat.reduceDiv, Nat.reduceBEq, Nat.reduceLeDiff, Int.reduceToNat, Int.reduceNe, Int.reduceEq, Int.reduceLT, Int.reduceLE, Int.reduceBEq, Int.reduceBNe, ne_eq, not_true_eq_false, not_false_eq_true, decide_true, decide_false, List.length_map]
    refine callC_at (contains_ev l (by simp [inF] at hb; omega)) ?_
    simp -implicitDefEqProofs (disch := omega) only [go_sem, ↓reduceIte, Nat.reduceEqDiff, Nat.reduceMul, Nat.reduceAdd, Nat.reduceDiv, Nat.reduceBEq, Nat.reduceLeDiff, Int.reduceToNat, Int.reduceNe, Int.reduceEq, Int.reduceLT, Int.reduceLE, Int.reduceBEq, Int.reduceBNe, ne_eq, not_true_eq_false, not_false_eq_true, decide_true, decide_false, List.length_map, Try.results32]
    rw [holders_find l hb]
  · simp -implicitDefEqProofs (disch := omega) only [go_sem, ↓reduceIte, Nat.reduceEqDiff, Nat.reduceMul, Nat.reduceAdd, Nat.reduceDiv, Nat.reduceBEq, Nat.reduceLeDiff, Int.reduceToNat, Int.reduceNe, Int.reduceEq, Int.reduceLT, Int.reduceLE, Int.reduceBEq, Int.reduceBNe, ne_eq, not_true_eq_false, not_false_eq_true, decide_true, decide_false, List.length_map, Try.results32]
    simp [holdersF, hb]
/-- The first 'n' from 'v' on. -/
theorem holders_ev (l : List Int) (hl : l.length ≤ 9223372036854775807) : Ev Try.prog 34 [SL l] (B (holdersF l)) := by
  refine ev_of Try.func34 rfl (by kernel_rfl) mo (Nat.le_of_ble_eq_true rfl) ?_
  simp -implicitDefEqProofs (disch := omega) only [go_sem, ↓reduceIte, Nat.reduceEqDiff, Nat.reduceMul, Nat.reduceAdd, Nat.reduceDiv, Nat.reduceBEq, Nat.reduceLeDiff, Int.reduceToNat, Int.reduceNe, Int.reduceEq, Int.reduceLT, Int.reduceLE, Int.reduceBEq, Int.reduceBNe, ne_eq, not_true_eq_false, not_false_eq_true, decide_true, decide_false, List.length_map, Try.ntmps34]
  refine callC_at (in_ev _ _ _) ?_
  simp -implicitDefEqProofs (disch := omega) only [go_sem, ↓reduceIte, Nat.reduceEqDiff, Nat.reduceMul, Nat.reduceAdd, Nat.reduceDiv, Nat.reduceBEq, Nat.reduceLeDiff, Int.reduceToNat, Int.reduceNe, Int.reduceEq, Int.reduceLT, Int.reduceLE, Int.reduceBEq, Int.reduceBNe, ne_eq, not_true_eq_false, not_false_eq_true, decide_true, decide_false, List.length_map]
  refine branch_mk (fun hb => ?_) (fun hb => ?_)
  · simp -implicitDefEqProofs (disch := omega) only [go_sem, ↓reduceIte, Nat.reduceEqDiff, Nat.reduceMul, Nat.reduceAdd, Nat.reduceDiv, Nat.reduceBEq, Nat.reduceLeDiff, Int.reduceToNat, Int.reduceNe, Int.reduceEq, Int.reduceLT, Int.reduceLE, Int.reduceBEq, Int.reduceBNe, ne_eq, not_true_eq_false, not_false_eq_true, decide_true, decide_false, List.length_map, Try.results34]
    simp [holdersF, hb]
  · simp -implicitDefEqProofs (disch := omega) only [go_sem, ↓reduceIte, Nat.reduceEqDiff, Nat.reduceMul, Nat.reduceAdd, Nat.reduceDiv, Nat.reduceBEq, Nat.reduceLeDiff, Int.reduceToNat, Int.reduceNe, Int.reduceEq, Int.reduceLT, Int.reduceLE, Int.reduceBEq, Int.reduceBNe, ne_eq, not_true_eq_false, not_false_eq_true, decide_true, decide_false, List.length_map]
    have hb' : inF l.length 1 30 = true := by simpa using hb
    refine loopC_mk (fun n E σ => ∃ v : Nat, v + n = l.length ∧ E 0 = SL l ∧ E 3 = I v ∧ ∀ i, i < v → inF (gd l i) (-1) 7 = true) l.length ⟨0, by omega, ?_⟩ ?_
    · simp -implicitDefEqProofs (disch := omega) only [go_sem, ↓reduceIte, Nat.reduceEqDiff, Nat.reduceMul, Nat.reduceAdd, Nat.reduceDiv, Nat.reduceBEq, Nat.reduceLeDiff, Int.reduceToNat, Int.reduceNe, Int.reduceEq, Int.reduceLT, Int.reduceLE, Int.reduceBEq, Int.reduceBNe, ne_eq, not_true_eq_false, not_false_eq_true, decide_true, decide_false, List.length_map]
      simp
    · rintro n E σ ⟨v, hv, h0, h3, hall⟩
      simp -implicitDefEqProofs (disch := omega) only [go_sem, ↓reduceIte, Nat.reduceEqDiff, Nat.reduceMul, Nat.reduceAdd, Nat.reduceDiv, Nat.reduceBEq, Nat.reduceLeDiff, Int.reduceToNat, Int.reduceNe, Int.reduceEq, Int.reduceLT, Int.reduceLE, Int.reduceBEq, Int.reduceBNe, ne_eq, not_true_eq_false, not_false_eq_true, decide_true, decide_false, List.length_map, h0, h3]
      refine branch_mk (fun hc => ?_) (fun hc => ?_)
      · simp -implicitDefEqProofs (disch := omega) only [go_sem, ↓reduceIte, Nat.reduceEqDiff, Nat.reduceMul, Nat.reduceAdd, Nat.reduceDiv, Nat.reduceBEq, Nat.reduceLeDiff, Int.reduceToNat, Int.reduceNe, Int.reduceEq, Int.reduceLT, Int.reduceLE, Int.reduceBEq, Int.reduceBNe, ne_eq, not_true_eq_false, not_false_eq_true, decide_true, decide_false, List.length_map, h0, h3]
        refine callC_at (in_ev _ _ _) ?_
        simp -implicitDefEqProofs (disch := omega) only [go_sem, ↓reduceIte, Nat.reduceEqDiff, Nat.reduceMul, Nat.reduceAdd, Nat.reduceDiv, Nat.reduceBEq, Nat.reduceLeDiff, Int.reduceToNat, Int.reduceNe, Int.reduceEq, Int.reduceLT, Int.reduceLE, Int.reduceBEq, Int.reduceBNe, ne_eq, not_true_eq_false, not_false_eq_true, decide_true, decide_false, List.length_map, h0, h3]
        refine branch_mk (fun hd => ?_) (fun hd => ?_)
        · simp -implicitDefEqProofs (disch := omega) only [go_sem, ↓reduceIte, Nat.reduceEqDiff, Nat.reduceMul, Nat.reduceAdd, Nat.reduceDiv, Nat.reduceBEq, Nat.reduceLeDiff, Int.reduceToNat, Int.reduceNe, Int.reduceEq, Int.reduceLT, Int.reduceLE, Int.reduceBEq, Int.reduceBNe, ne_eq, not_true_eq_false, not_false_eq_true, decide_true, decide_false, List.length_map, Try.results34]
          have : (l.all fun c => inF c (-1) 7) = false := by
            cases hh : l.all fun c => inF c (-1) 7 with
            | false => rfl
            | true => rw [(all_iff l fun c => inF c (-1) 7).1 hh v (by omega)] at hd; cases hd
          simp [holdersF, this]
        · simp -implicitDefEqProofs (disch := omega) only [go_sem, ↓reduceIte, Nat.reduceEqDiff, Nat.reduceMul, Nat.reduceAdd, Nat.reduceDiv, Nat.reduceBEq, Nat.reduceLeDiff, Int.reduceToNat, Int.reduceNe, Int.reduceEq, Int.reduceLT, Int.reduceLE, Int.reduceBEq, Int.reduceBNe, ne_eq, not_true_eq_false, not_false_eq_true, decide_true, decide_false, List.length_map, h0, h3]
          refine againQ_mk (n - 1) (by omega) ⟨v + 1, by omega, ?_⟩
          simp -implicitDefEqProofs (disch := omega) only [go_sem, ↓reduceIte, Nat.reduceEqDiff, Nat.reduceMul, Nat.reduceAdd, Nat.reduceDiv, Nat.reduceBEq, Nat.reduceLeDiff, Int.reduceToNat, Int.reduceNe, Int.reduceEq, Int.reduceLT, Int.reduceLE, Int.reduceBEq, Int.reduceBNe, ne_eq, not_true_eq_false, not_false_eq_true, decide_true, decide_false, List.length_map, h0, h3]
          refine ⟨by simp, fun i hi => ?_⟩
          by_cases e : i = v
          · subst e; simpa using hd
          · exact hall i (by omega)
      · simp -implicitDefEqProofs (disch := omega) only [go_sem, ↓reduceIte, Nat.reduceEqDiff, Nat.reduceMul, Nat.reduceAdd, Nat.reduceDiv, Nat.reduceBEq, Nat.reduceLeDiff, Int.reduceToNat, Int.reduceNe, Int.reduceEq, Int.reduceLT, Int.reduceLE, Int.reduceBEq, Int.reduceBNe, ne_eq, not_true_eq_false, not_false_eq_true, decide_true, decide_false, List.length_map, Try.results34]
        rw [show holdersF l = true from by
          simp only [holdersF, hb', Bool.true_and]
          exact (all_iff l fun c => inF c (-1) 7).2 fun i hi => hall i (by omega)]

end Go.Proofs.Ytmiahmpobpokmaa

/- The contracts of chapter 24: which are valid. -/
set_option maxRecDepth 100000
set_option linter.unusedSimpArgs false
namespace Go.Proofs.Ytmiahmpobpokmaa
open Go.Vai Go Go.Proofs

/-- The row of the least versions, laid in a block. -/
def LBlk (l : List Int) : Blk := ⟨55, 8, [.agg (l.map I)]⟩
/-- Half a version: the first 'i' of the two. -/
def partF (h : List Int) (c a : Int) (v i : Nat) : Int := if gd h v ≠ gd h (v - 1) ∧ ((1 ≤ i ∧ gd h (v - 1) = c) ∨ (2 ≤ i ∧ gd h v = c)) then max a v else a

theorem valid_ev (h k : List Int) (lag : Int) (hh : h.length ≤ 9223372036854775807) (hk : k.length ≤ 9223372036854775807) (hl : R64 lag) : Ev Try.prog 14 [SL h, SL k, I lag] (B (validF h k lag)) := by
  obtain ⟨hl1, hl2⟩ := hl
  refine ev_of Try.func14 rfl (by kernel_rfl) mo (Nat.le_of_ble_eq_true rfl) ?_
  simp -implicitDefEqProofs (disch := omega) only [go_sem, ↓reduceIte, Nat.reduceEqDiff, Nat.reduceMul, Nat.reduceAdd, Nat.reduceDiv, Nat.reduceBEq, Nat.reduceLeDiff, Int.reduceToNat, Int.reduceNe, Int.reduceEq, Int.reduceLT, Int.reduceLE, Int.reduceBEq, Int.reduceBNe, ne_eq, not_true_eq_false, not_false_eq_true, decide_true, decide_false, List.length_map, Try.ntmps14]
  refine callC_at (areHolders_ev h hh) ?_
  simp -implicitDefEqProofs (disch := omega) only [go_sem, ↓reduceIte, Nat.reduceEqDiff, Nat.reduceMul, Nat.reduceAdd, Nat.reduceDiv, Nat.reduceBEq, Nat.reduceLeDiff, Int.reduceToNat, Int.reduceNe, Int.reduceEq, Int.reduceLT, Int.reduceLE, Int.reduceBEq, Int.reduceBNe, ne_eq, not_true_eq_false, not_false_eq_true, decide_true, decide_false, List.length_map]
  repeat' (first | ((with_reducible refine branch_mk (fun hb => ?_) (fun hb => ?_)) <;> simp -implicitDefEqProofs (disch := omega) only [go_sem, ↓reduceIte, Nat.reduceEqDiff, Nat.reduceMul, Nat.reduceAdd, Nat.reduceDiv, Nat.reduceBEq, Nat.reduceLeDiff, Int.reduceToNat, Int.reduceNe, Int.reduceEq, Int.reduceLT, Int.reduceLE, Int.reduceBEq, Int.reduceBNe, ne_eq, not_true_eq_false, not_false_eq_true, decide_true, decide_false, List.length_map, Try.results14, hb]) | ((with_reducible refine callC_id ?_); refine callC_at (isWithin_ev _ _ _) ?_; try simp -implicitDefEqProofs (disch := omega) only [go_sem, ↓reduceIte, Nat.reduceEqDiff, Nat.reduceMul, Nat.reduceAdd, Nat.reduceDiv, Nat.reduceBEq, Nat.reduceLeDiff, Int.reduceToNat, Int.reduceNe, Int.reduceEq, Int.reduceLT, Int.reduceLE, Int.reduceBEq, Int.reduceBNe, ne_eq, not_true_eq_false, not_false_eq_true, decide_true, decide_false, List.length_map, Try.results14]))
  · simp [validF, hb]
  · simp [validF]; intro _ e; omega
  · simp [validF, hb]
  · rename_i hb1 hb2
    have hk8 : k.length = 8 := by omega
    have hho : holdersF h = true := by simpa using hb1
    have hlg : inF lag 0 10 = true := by simpa using hb
    have hlen : 1 ≤ h.length ∧ h.length ≤ 30 := by
      simp only [holdersF, Bool.and_eq_true, inF_iff] at hho; omega
    have hlag := (inF_iff _ _ _).1 hlg
    clear hb hb1 hb2 hlg hl1 hl2 hk hh
    have hin : ∀ i, i < h.length → -1 ≤ gd h i ∧ gd h i ≤ 7 := fun i hi => by
      have := hho
      simp only [holdersF, Bool.and_eq_true] at this
      exact (inF_iff _ _ _).1 ((all_iff h _).1 this.2 i hi)
    refine loopC_mk (fun n E σ => ∃ c : Nat, c + n = 8 ∧ E 0 = SL h ∧ E 1 = SL k ∧ E 2 = I lag ∧ E 7 = I (h.length - 1) ∧ E 8 = .ptr 31457408 8 0 0 ∧ E 31 = I c ∧
      ∃ l, σ 31457408 = some (LBlk l) ∧ l.length = 8 ∧ ∀ i, i < c → gd l i = leastF h lag i 0) 8 ⟨0, by omega, ?_⟩ ?_
    · simp -implicitDefEqProofs (disch := omega) only [go_sem, ↓reduceIte, Nat.reduceEqDiff, Nat.reduceMul, Nat.reduceAdd, Nat.reduceDiv, Nat.reduceBEq, Nat.reduceLeDiff, Int.reduceToNat, Int.reduceNe, Int.reduceEq, Int.reduceLT, Int.reduceLE, Int.reduceBEq, Int.reduceBNe, ne_eq, not_true_eq_false, not_false_eq_true, decide_true, decide_false, List.length_map]
      refine ⟨by simp, List.replicate 8 0, rfl, rfl, fun i hi => by omega⟩
    · rintro n E σ ⟨c, hc, h0, h1, h2, h7, h8, h31, l, hs, hll, hl⟩
      simp -implicitDefEqProofs (disch := omega) only [go_sem, ↓reduceIte, Nat.reduceEqDiff, Nat.reduceMul, Nat.reduceAdd, Nat.reduceDiv, Nat.reduceBEq, Nat.reduceLeDiff, Int.reduceToNat, Int.reduceNe, Int.reduceEq, Int.reduceLT, Int.reduceLE, Int.reduceBEq, Int.reduceBNe, ne_eq, not_true_eq_false, not_false_eq_true, decide_true, decide_false, List.length_map, h0, h1, h2, h7, h8, h31]
      refine branch_mk (fun hd => ?_) (fun hd => ?_)
      · simp -implicitDefEqProofs (disch := omega) only [go_sem, ↓reduceIte, Nat.reduceEqDiff, Nat.reduceMul, Nat.reduceAdd, Nat.reduceDiv, Nat.reduceBEq, Nat.reduceLeDiff, Int.reduceToNat, Int.reduceNe, Int.reduceEq, Int.reduceLT, Int.reduceLE, Int.reduceBEq, Int.reduceBNe, ne_eq, not_true_eq_false, not_false_eq_true, decide_true, decide_false, List.length_map, h0, h1, h2, h7, h8, h31, hs, LBlk]
        refine againQ_mk (n - 1) (by omega) ⟨c + 1, by omega, ?_⟩
        simp -implicitDefEqProofs (disch := omega) only [go_sem, ↓reduceIte, Nat.reduceEqDiff, Nat.reduceMul, Nat.reduceAdd, Nat.reduceDiv, Nat.reduceBEq, Nat.reduceLeDiff, Int.reduceToNat, Int.reduceNe, Int.reduceEq, Int.reduceLT, Int.reduceLE, Int.reduceBEq, Int.reduceBNe, ne_eq, not_true_eq_false, not_false_eq_true, decide_true, decide_false, List.length_map, h0, h1, h2, h7, h8, h31]
        refine ⟨by simp, _, rfl, by simpa using hll, fun i hi => ?_⟩
        rw [gd_set _ _ _ _ (by omega)]
        split
        · simp only [leastF]
        · rw [hl i (by omega)]
      · simp -implicitDefEqProofs (disch := omega) only [go_sem, ↓reduceIte, Nat.reduceEqDiff, Nat.reduceMul, Nat.reduceAdd, Nat.reduceDiv, Nat.reduceBEq, Nat.reduceLeDiff, Int.reduceToNat, Int.reduceNe, Int.reduceEq, Int.reduceLT, Int.reduceLE, Int.reduceBEq, Int.reduceBNe, ne_eq, not_true_eq_false, not_false_eq_true, decide_true, decide_false, List.length_map, h0, h1, h2, h7, h8, h31, hs]
        clear h31
        have hc8 : c = 8 := by omega
        subst hc8
        refine loopC_mk (fun n E σ => ∃ v : Nat, 1 ≤ v ∧ v + n = h.length ∧ E 0 = SL h ∧ E 1 = SL k ∧ E 2 = I lag ∧ E 7 = I (h.length - 1) ∧ E 8 = .ptr 31457408 8 0 0 ∧ E 10 = I v ∧
          ∃ l, σ 31457408 = some (LBlk l) ∧ l.length = 8 ∧ ∀ i, i < 8 → gd l i = leastF h lag i (v - 1)) (h.length - 1) ⟨1, by omega, by omega, ?_⟩ ?_
        · simp -implicitDefEqProofs (disch := omega) only [go_sem, ↓reduceIte, Nat.reduceEqDiff, Nat.reduceMul, Nat.reduceAdd, Nat.reduceDiv, Nat.reduceBEq, Nat.reduceLeDiff, Int.reduceToNat, Int.reduceNe, Int.reduceEq, Int.reduceLT, Int.reduceLE, Int.reduceBEq, Int.reduceBNe, ne_eq, not_true_eq_false, not_false_eq_true, decide_true, decide_false, List.length_map, h0, h1, h2, h7, h8]
          refine ⟨by simp, l, hs, hll, hl⟩
        · clear h0 h1 h2 h7 h8 hs hll hl l n σ E hd hc
          rintro n E σ ⟨v, hv1, hv, h0, h1, h2, h7, h8, h10, l, hs, hll, hl⟩
          simp -implicitDefEqProofs (disch := omega) only [go_sem, ↓reduceIte, Nat.reduceEqDiff, Nat.reduceMul, Nat.reduceAdd, Nat.reduceDiv, Nat.reduceBEq, Nat.reduceLeDiff, Int.reduceToNat, Int.reduceNe, Int.reduceEq, Int.reduceLT, Int.reduceLE, Int.reduceBEq, Int.reduceBNe, ne_eq, not_true_eq_false, not_false_eq_true, decide_true, decide_false, List.length_map, h0, h1, h2, h7, h8, h10]
          refine branch_mk (fun hd => ?_) (fun hd => ?_)
          · simp -implicitDefEqProofs (disch := omega) only [go_sem, ↓reduceIte, Nat.reduceEqDiff, Nat.reduceMul, Nat.reduceAdd, Nat.reduceDiv, Nat.reduceBEq, Nat.reduceLeDiff, Int.reduceToNat, Int.reduceNe, Int.reduceEq, Int.reduceLT, Int.reduceLE, Int.reduceBEq, Int.reduceBNe, ne_eq, not_true_eq_false, not_false_eq_true, decide_true, decide_false, List.length_map, h0, h1, h2, h7, h8, h10]
            have ev1 : ((v : Int) - 1).toNat = v - 1 := by omega
            have ev2 : ((v : Int) + 1).toNat - (v - 1) = 2 := by omega
            obtain ⟨m, hm, hm2, hm0, hm1⟩ : ∃ m : List Int, (h.drop (v - 1)).take 2 = m ∧ m.length = 2 ∧ gd m 0 = gd h (v - 1) ∧ gd m 1 = gd h v := by
              refine ⟨_, rfl, by simp; omega, ?_, ?_⟩
              · rw [gd_take _ _ _ (by omega), gd_drop]; rfl
              · rw [gd_take _ _ _ (by omega), gd_drop, show v - 1 + 1 = v from by omega]
            refine loopC_mk (fun n E σ => ∃ i : Nat, i + n = 2 ∧ E 0 = SL h ∧ E 1 = SL k ∧ E 2 = I lag ∧ E 7 = I (h.length - 1) ∧ E 8 = .ptr 31457408 8 0 0 ∧ E 10 = I v ∧ E 51 = SL m ∧ E 52 = I 2 ∧ E 53 = I i ∧
              ∃ l, σ 31457408 = some (LBlk l) ∧ l.length = 8 ∧ ∀ c, c < 8 → gd l c = partF h c (leastF h lag c (v - 1)) v i) 2 ⟨0, by omega, ?_⟩ ?_
            · simp -implicitDefEqProofs (disch := omega) only [go_sem, ↓reduceIte, Nat.reduceEqDiff, Nat.reduceMul, Nat.reduceAdd, Nat.reduceDiv, Nat.reduceBEq, Nat.reduceLeDiff, Int.reduceToNat, Int.reduceNe, Int.reduceEq, Int.reduceLT, Int.reduceLE, Int.reduceBEq, Int.reduceBNe, ne_eq, not_true_eq_false, not_false_eq_true, decide_true, decide_false, List.length_map, h0, h1, h2, h7, h8, h10, ev2, ev1, hm, hm2]
              refine ⟨by simp, by simp, l, hs, hll, fun c hc => ?_⟩
              rw [hl c hc]; simp [partF]
            · have hv0 := hin (v - 1) (by omega)
              have hv1 := hin v (by omega)
              clear h0 h1 h2 h7 h8 h10 hs hll hl l σ E ev2
              rintro n' E σ ⟨i, hi, h0, h1, h2, h7, h8, h10, h51, h52, h53, l, hs, hll, hl⟩
              simp -implicitDefEqProofs (disch := omega) only [go_sem, ↓reduceIte, Nat.reduceEqDiff, Nat.reduceMul, Nat.reduceAdd, Nat.reduceDiv, Nat.reduceBEq, Nat.reduceLeDiff, Int.reduceToNat, Int.reduceNe, Int.reduceEq, Int.reduceLT, Int.reduceLE, Int.reduceBEq, Int.reduceBNe, ne_eq, not_true_eq_false, not_false_eq_true, decide_true, decide_false, List.length_map, h0, h1, h2, h7, h8, h10, h51, h52, h53]
              refine branch_mk (fun hd => ?_) (fun hd => ?_)
              · have hmi : gd m i = if i = 0 then gd h (v - 1) else gd h v := by
                  split
                  · rename_i e; subst e; exact hm0
                  · rw [show i = 1 from by omega]; exact hm1
                have hmr : -1 ≤ gd m i ∧ gd m i ≤ 7 := by rw [hmi]; split <;> omega
                have same : ¬ (0 ≤ gd m i ∧ gd h v ≠ gd h (v - 1)) → ∀ c : Nat, c < 8 → partF h c (leastF h lag c (v - 1)) v i = partF h c (leastF h lag c (v - 1)) v (i + 1) := by
                  intro hn c hc
                  unfold partF
                  have : gd h v ≠ gd h (v - 1) → ¬ (gd m i = c) := fun h1 h2 => hn ⟨by omega, h1⟩
                  rw [hmi] at this
                  congr 1
                  refine propext ⟨fun ⟨h1, h2⟩ => ⟨h1, by omega⟩, fun ⟨h1, h2⟩ => ⟨h1, ?_⟩⟩
                  have := this h1
                  split at this <;> omega
                simp -implicitDefEqProofs (disch := omega) only [go_sem, ↓reduceIte, Nat.reduceEqDiff, Nat.reduceMul, Nat.reduceAdd, Nat.reduceDiv, Nat.reduceBEq, Nat.reduceLeDiff, Int.reduceToNat, Int.reduceNe, Int.reduceEq, Int.reduceLT, Int.reduceLE, Int.reduceBEq, Int.reduceBNe, ne_eq, not_true_eq_false, not_false_eq_true, decide_true, decide_false, List.length_map, h0, h1, h2, h7, h8, h10, h51, h52, h53]
                repeat' (first | ((with_reducible refine branch_mk (fun hb => ?_) (fun hb => ?_)) <;> simp -implicitDefEqProofs (disch := omega) only [go_sem, ↓reduceIte, Nat.reduceEqDiff, Nat.reduceMul, Nat.reduceAdd, Nat.reduceDiv, Nat.reduceBEq, Nat.reduceLeDiff, Int.reduceToNat, Int.reduceNe, Int.reduceEq, Int.reduceLT, Int.reduceLE, Int.reduceBEq, Int.reduceBNe, ne_eq, not_true_eq_false, not_false_eq_true, decide_true, decide_false, List.length_map, h0, h1, h2, h7, h8, h10, h51, h52, h53, hs, LBlk, ev1, hb]))
                all_goals (refine againQ_mk (n' - 1) (by omega) ⟨i + 1, by omega, ?_⟩; simp -implicitDefEqProofs (disch := omega) only [go_sem, ↓reduceIte, Nat.reduceEqDiff, Nat.reduceMul, Nat.reduceAdd, Nat.reduceDiv, Nat.reduceBEq, Nat.reduceLeDiff, Int.reduceToNat, Int.reduceNe, Int.reduceEq, Int.reduceLT, Int.reduceLE, Int.reduceBEq, Int.reduceBNe, ne_eq, not_true_eq_false, not_false_eq_true, decide_true, decide_false, List.length_map, h0, h1, h2, h7, h8, h10, h51, h52, h53, hs])
                · rename_i hb0
                  refine ⟨by simp, _, rfl, by simpa using hll, fun c hc => ?_⟩
                  rw [gd_set _ _ _ _ (by omega), hl _ (by omega), hl _ hc]
                  by_cases e : c = (gd m i).toNat
                  · rw [if_pos e, ← e]
                    have e' : gd m i = c := by omega
                    rw [hmi] at e'
                    have h1 : gd h v ≠ gd h (v - 1) := hb
                    have hA : partF h c (leastF h lag c (v - 1)) v i = leastF h lag c (v - 1) := by
                      unfold partF; rw [if_neg]; rintro ⟨_, hx⟩
                      split at e' <;> omega
                    have hB : partF h c (leastF h lag c (v - 1)) v (i + 1) = max (leastF h lag c (v - 1)) v := by
                      unfold partF; rw [if_pos]; refine ⟨h1, ?_⟩
                      split at e'
                      · exact .inl ⟨by omega, e'⟩
                      · exact .inr ⟨by omega, e'⟩
                    rw [hA, hB]
                  · rw [if_neg e]
                    have e' : ¬ gd m i = c := by omega
                    rw [hmi] at e'
                    unfold partF
                    congr 1
                    refine propext ⟨fun ⟨h1, h2⟩ => ⟨h1, by omega⟩, fun ⟨h1, h2⟩ => ⟨h1, ?_⟩⟩
                    split at e' <;> omega
                · rename_i hb0
                  exact ⟨by simp, l, rfl, hll, fun c hc => by rw [hl c hc]; exact same (by omega) c hc⟩
                · exact ⟨by simp, l, rfl, hll, fun c hc => by rw [hl c hc]; exact same (by omega) c hc⟩
              · simp -implicitDefEqProofs (disch := omega) only [go_sem, ↓reduceIte, Nat.reduceEqDiff, Nat.reduceMul, Nat.reduceAdd, Nat.reduceDiv, Nat.reduceBEq, Nat.reduceLeDiff, Int.reduceToNat, Int.reduceNe, Int.reduceEq, Int.reduceLT, Int.reduceLE, Int.reduceBEq, Int.reduceBNe, ne_eq, not_true_eq_false, not_false_eq_true, decide_true, decide_false, List.length_map, h0, h1, h2, h7, h8, h10]
                refine againQ_mk (n - 1) (by omega) ⟨v + 1, by omega, by omega, ?_⟩
                simp -implicitDefEqProofs (disch := omega) only [go_sem, ↓reduceIte, Nat.reduceEqDiff, Nat.reduceMul, Nat.reduceAdd, Nat.reduceDiv, Nat.reduceBEq, Nat.reduceLeDiff, Int.reduceToNat, Int.reduceNe, Int.reduceEq, Int.reduceLT, Int.reduceLE, Int.reduceBEq, Int.reduceBNe, ne_eq, not_true_eq_false, not_false_eq_true, decide_true, decide_false, List.length_map, h0, h1, h2, h7, h8, h10]
                refine ⟨by simp, l, hs, hll, fun c hc => ?_⟩
                rw [hl c hc, show v + 1 - 1 = (v - 1) + 1 from by omega]
                rw [leastF.eq_2, show v - 1 + 1 = v from by omega]
                unfold partF turnsF
                congr 1
                refine propext ⟨fun ⟨a, b⟩ => ⟨a, by omega⟩, fun ⟨a, b⟩ => ⟨a, by omega⟩⟩
          · simp -implicitDefEqProofs (disch := omega) only [go_sem, ↓reduceIte, Nat.reduceEqDiff, Nat.reduceMul, Nat.reduceAdd, Nat.reduceDiv, Nat.reduceBEq, Nat.reduceLeDiff, Int.reduceToNat, Int.reduceNe, Int.reduceEq, Int.reduceLT, Int.reduceLE, Int.reduceBEq, Int.reduceBNe, ne_eq, not_true_eq_false, not_false_eq_true, decide_true, decide_false, List.length_map, h0, h1, h2, h7, h8, h10]
            clear h10
            have hl' : ∀ i : Nat, i < 8 → gd l i = leastF h lag i (h.length - 1) := fun i hi => by rw [hl i hi]; congr 1; omega
            clear hl hv hv1 hd
            refine loopC_mk (fun n E σ => ∃ c : Nat, c + n = 8 ∧ E 0 = SL h ∧ E 1 = SL k ∧ E 2 = I lag ∧ E 7 = I (h.length - 1) ∧ E 8 = .ptr 31457408 8 0 0 ∧ E 79 = SL k ∧ E 80 = I 8 ∧ E 81 = I c ∧ σ 31457408 = some (LBlk l) ∧
              ∀ i : Nat, i < c → (decide (gd k i = -1) || inF (gd k i) (leastF h lag i (h.length - 1)) ((h.length : Int) - 1)) = true) 8 ⟨0, by omega, ?_⟩ ?_
            · simp -implicitDefEqProofs (disch := omega) only [go_sem, ↓reduceIte, Nat.reduceEqDiff, Nat.reduceMul, Nat.reduceAdd, Nat.reduceDiv, Nat.reduceBEq, Nat.reduceLeDiff, Int.reduceToNat, Int.reduceNe, Int.reduceEq, Int.reduceLT, Int.reduceLE, Int.reduceBEq, Int.reduceBNe, ne_eq, not_true_eq_false, not_false_eq_true, decide_true, decide_false, List.length_map, h0, h1, h2, h7, h8]
              exact ⟨by simp [hk8], by simp, hs, fun i hi => by omega⟩
            · clear h0 h1 h2 h7 h8 hs σ E
              rintro n' E σ ⟨c, hc, h0, h1, h2, h7, h8, h79, h80, h81, hs, hall⟩
              simp -implicitDefEqProofs (disch := omega) only [go_sem, ↓reduceIte, Nat.reduceEqDiff, Nat.reduceMul, Nat.reduceAdd, Nat.reduceDiv, Nat.reduceBEq, Nat.reduceLeDiff, Int.reduceToNat, Int.reduceNe, Int.reduceEq, Int.reduceLT, Int.reduceLE, Int.reduceBEq, Int.reduceBNe, ne_eq, not_true_eq_false, not_false_eq_true, decide_true, decide_false, List.length_map, h0, h1, h2, h7, h8, h79, h80, h81]
              refine branch_mk (fun hd => ?_) (fun hd => ?_)
              · simp -implicitDefEqProofs (disch := omega) only [go_sem, ↓reduceIte, Nat.reduceEqDiff, Nat.reduceMul, Nat.reduceAdd, Nat.reduceDiv, Nat.reduceBEq, Nat.reduceLeDiff, Int.reduceToNat, Int.reduceNe, Int.reduceEq, Int.reduceLT, Int.reduceLE, Int.reduceBEq, Int.reduceBNe, ne_eq, not_true_eq_false, not_false_eq_true, decide_true, decide_false, List.length_map, h0, h1, h2, h7, h8, h79, h80, h81]
                have no : ¬ ((decide (gd k c = -1) || inF (gd k c) (leastF h lag c (h.length - 1)) ((h.length : Int) - 1)) = true) → validF h k lag = false := fun hn => by
                  cases hv : validF h k lag with
                  | false => rfl
                  | true =>
                    simp only [validF, Bool.and_eq_true] at hv
                    exact absurd (List.all_eq_true.1 hv.2 c (List.mem_range.2 (by omega))) hn
                have yes : (decide (gd k c = -1) || inF (gd k c) (leastF h lag c (h.length - 1)) ((h.length : Int) - 1)) = true → ∀ i : Nat, i < c + 1 → gd k i = -1 ∨ inF (gd k i) (leastF h lag i (h.length - 1)) ((h.length : Int) - 1) = true := fun hy i hi => by
                  by_cases e : i = c
                  · subst e; simpa using hy
                  · simpa using hall i (by omega)
                repeat' (first | ((with_reducible refine branch_mk (fun hb => ?_) (fun hb => ?_)) <;> simp -implicitDefEqProofs (disch := omega) only [go_sem, ↓reduceIte, Nat.reduceEqDiff, Nat.reduceMul, Nat.reduceAdd, Nat.reduceDiv, Nat.reduceBEq, Nat.reduceLeDiff, Int.reduceToNat, Int.reduceNe, Int.reduceEq, Int.reduceLT, Int.reduceLE, Int.reduceBEq, Int.reduceBNe, ne_eq, not_true_eq_false, not_false_eq_true, decide_true, decide_false, List.length_map, h0, h1, h2, h7, h8, h79, h80, h81, hs, LBlk, Try.results14, hb]) | ((with_reducible refine callC_id ?_); refine callC_at (isWithin_ev _ _ _) ?_; try simp -implicitDefEqProofs (disch := omega) only [go_sem, ↓reduceIte, Nat.reduceEqDiff, Nat.reduceMul, Nat.reduceAdd, Nat.reduceDiv, Nat.reduceBEq, Nat.reduceLeDiff, Int.reduceToNat, Int.reduceNe, Int.reduceEq, Int.reduceLT, Int.reduceLE, Int.reduceBEq, Int.reduceBNe, ne_eq, not_true_eq_false, not_false_eq_true, decide_true, decide_false, List.length_map, h0, h1, h2, h7, h8, h79, h80, h81, hs, LBlk, Try.results14]))
                · rename_i hb0
                  rw [hl' c (by omega)] at hb
                  rw [no (by simp [hb, hb0])]
                · rename_i hb0
                  rw [hl' c (by omega)] at hb
                  refine againQ_mk (n' - 1) (by omega) ⟨c + 1, by omega, ?_⟩
                  simp -implicitDefEqProofs (disch := omega) only [go_sem, ↓reduceIte, Nat.reduceEqDiff, Nat.reduceMul, Nat.reduceAdd, Nat.reduceDiv, Nat.reduceBEq, Nat.reduceLeDiff, Int.reduceToNat, Int.reduceNe, Int.reduceEq, Int.reduceLT, Int.reduceLE, Int.reduceBEq, Int.reduceBNe, ne_eq, not_true_eq_false, not_false_eq_true, decide_true, decide_false, List.length_map, h0, h1, h2, h7, h8, h79, h80, h81, hs, LBlk]
                  exact ⟨by simp, yes (by simp at hb; simp [hb])⟩
                · refine againQ_mk (n' - 1) (by omega) ⟨c + 1, by omega, ?_⟩
                  simp -implicitDefEqProofs (disch := omega) only [go_sem, ↓reduceIte, Nat.reduceEqDiff, Nat.reduceMul, Nat.reduceAdd, Nat.reduceDiv, Nat.reduceBEq, Nat.reduceLeDiff, Int.reduceToNat, Int.reduceNe, Int.reduceEq, Int.reduceLT, Int.reduceLE, Int.reduceBEq, Int.reduceBNe, ne_eq, not_true_eq_false, not_false_eq_true, decide_true, decide_false, List.length_map, h0, h1, h2, h7, h8, h79, h80, h81, hs, LBlk]
                  exact ⟨by simp, yes (by simp at hb; simp [hb])⟩
              · simp -implicitDefEqProofs (disch := omega) only [go_sem, ↓reduceIte, Nat.reduceEqDiff, Nat.reduceMul, Nat.reduceAdd, Nat.reduceDiv, Nat.reduceBEq, Nat.reduceLeDiff, Int.reduceToNat, Int.reduceNe, Int.reduceEq, Int.reduceLT, Int.reduceLE, Int.reduceBEq, Int.reduceBNe, ne_eq, not_true_eq_false, not_false_eq_true, decide_true, decide_false, List.length_map, h0, h1, h2, h7, h8, Try.results14]
                have : validF h k lag = true := by
                  simp only [validF, Bool.and_eq_true]
                  refine ⟨⟨⟨hho, by simp [hk8]⟩, (inF_iff _ _ _).2 hlag⟩, List.all_eq_true.2 fun i hi => hall i ?_⟩
                  have := List.mem_range.1 hi; omega
                rw [this]

end Go.Proofs.Ytmiahmpobpokmaa

/- The contracts of chapter 24: which are valid, by the reference. -/
set_option maxRecDepth 100000
set_option linter.unusedSimpArgs false
namespace Go.Proofs.Ytmiahmpobpokmaa
open Go.Vai Go Go.Proofs

theorem validR_ev (h k : List Int) (lag : Int) (hh : h.length ≤ 9223372036854775807) (hk : k.length ≤ 9223372036854775807) (hl : R64 lag) : Ev Try.prog 15 [SL h, SL k, I lag] (B (validF h k lag)) := by
  obtain ⟨hl1, hl2⟩ := hl
  refine ev_of Try.func15 rfl (by kernel_rfl) mo (Nat.le_of_ble_eq_true rfl) ?_
  simp -implicitDefEqProofs (disch := omega) only [go_sem, ↓reduceIte, Nat.reduceEqDiff, Nat.reduceMul, Nat.reduceAdd, Nat.reduceDiv, Nat.reduceBEq, Nat.reduceLeDiff, Int.reduceToNat, Int.reduceNe, Int.reduceEq, Int.reduceLT, Int.reduceLE, Int.reduceBEq, Int.reduceBNe, ne_eq, not_true_eq_false, not_false_eq_true, decide_true, decide_false, List.length_map, Try.ntmps15]
  refine callC_at (holders_ev h hh) ?_
  simp -implicitDefEqProofs (disch := omega) only [go_sem, ↓reduceIte, Nat.reduceEqDiff, Nat.reduceMul, Nat.reduceAdd, Nat.reduceDiv, Nat.reduceBEq, Nat.reduceLeDiff, Int.reduceToNat, Int.reduceNe, Int.reduceEq, Int.reduceLT, Int.reduceLE, Int.reduceBEq, Int.reduceBNe, ne_eq, not_true_eq_false, not_false_eq_true, decide_true, decide_false, List.length_map]
  repeat' (first | ((with_reducible refine branch_mk (fun hb => ?_) (fun hb => ?_)) <;> simp -implicitDefEqProofs (disch := omega) only [go_sem, ↓reduceIte, Nat.reduceEqDiff, Nat.reduceMul, Nat.reduceAdd, Nat.reduceDiv, Nat.reduceBEq, Nat.reduceLeDiff, Int.reduceToNat, Int.reduceNe, Int.reduceEq, Int.reduceLT, Int.reduceLE, Int.reduceBEq, Int.reduceBNe, ne_eq, not_true_eq_false, not_false_eq_true, decide_true, decide_false, List.length_map, Try.results15, hb]) | ((with_reducible refine callC_id ?_); refine callC_at (in_ev _ _ _) ?_; try simp -implicitDefEqProofs (disch := omega) only [go_sem, ↓reduceIte, Nat.reduceEqDiff, Nat.reduceMul, Nat.reduceAdd, Nat.reduceDiv, Nat.reduceBEq, Nat.reduceLeDiff, Int.reduceToNat, Int.reduceNe, Int.reduceEq, Int.reduceLT, Int.reduceLE, Int.reduceBEq, Int.reduceBNe, ne_eq, not_true_eq_false, not_false_eq_true, decide_true, decide_false, List.length_map, Try.results15]))
  · simp [validF, hb]
  · simp [validF]; intro _ e; omega
  · simp [validF, hb]
  · rename_i hb1 hb2
    have hk8 : k.length = 8 := by omega
    have hho : holdersF h = true := by simpa using hb1
    have hlg : inF lag 0 10 = true := by simpa using hb
    have hlen : 1 ≤ h.length ∧ h.length ≤ 30 := by
      simp only [holdersF, Bool.and_eq_true, inF_iff] at hho; omega
    have hlag := (inF_iff _ _ _).1 hlg
    clear hb hb1 hb2 hlg hl1 hl2 hk hh
    refine loopC_mk (fun n E σ => ∃ c : Nat, c + n = 8 ∧ E 0 = SL h ∧ E 1 = SL k ∧ E 2 = I lag ∧ E 7 = I (h.length - 1) ∧ E 8 = I c ∧
      ∀ i : Nat, i < c → gd k i = -1 ∨ inF (gd k i) (leastF h lag i (h.length - 1)) ((h.length : Int) - 1) = true) 8 ⟨0, by omega, ?_⟩ ?_
    · simp -implicitDefEqProofs (disch := omega) only [go_sem, ↓reduceIte, Nat.reduceEqDiff, Nat.reduceMul, Nat.reduceAdd, Nat.reduceDiv, Nat.reduceBEq, Nat.reduceLeDiff, Int.reduceToNat, Int.reduceNe, Int.reduceEq, Int.reduceLT, Int.reduceLE, Int.reduceBEq, Int.reduceBNe, ne_eq, not_true_eq_false, not_false_eq_true, decide_true, decide_false, List.length_map]
      simp
    · rintro n E σ ⟨c, hc, h0, h1, h2, h7, h8, hall⟩
      simp -implicitDefEqProofs (disch := omega) only [go_sem, ↓reduceIte, Nat.reduceEqDiff, Nat.reduceMul, Nat.reduceAdd, Nat.reduceDiv, Nat.reduceBEq, Nat.reduceLeDiff, Int.reduceToNat, Int.reduceNe, Int.reduceEq, Int.reduceLT, Int.reduceLE, Int.reduceBEq, Int.reduceBNe, ne_eq, not_true_eq_false, not_false_eq_true, decide_true, decide_false, List.length_map, h0, h1, h2, h7, h8]
      refine branch_mk (fun hd => ?_) (fun hd => ?_)
      · simp -implicitDefEqProofs (disch := omega) only [go_sem, ↓reduceIte, Nat.reduceEqDiff, Nat.reduceMul, Nat.reduceAdd, Nat.reduceDiv, Nat.reduceBEq, Nat.reduceLeDiff, Int.reduceToNat, Int.reduceNe, Int.reduceEq, Int.reduceLT, Int.reduceLE, Int.reduceBEq, Int.reduceBNe, ne_eq, not_true_eq_false, not_false_eq_true, decide_true, decide_false, List.length_map, h0, h1, h2, h7, h8]
        have no : ¬ (gd k c = -1 ∨ inF (gd k c) (leastF h lag c (h.length - 1)) ((h.length : Int) - 1) = true) → validF h k lag = false := fun hn => by
          cases hv : validF h k lag with
          | false => rfl
          | true =>
            simp only [validF, Bool.and_eq_true] at hv
            have := List.all_eq_true.1 hv.2 c (List.mem_range.2 (by omega))
            exact absurd (by simpa using this) hn
        have hle := leastF_le h lag c (gd k c) (h.length - 1)
        have hnn := leastF_nonneg h lag c (h.length - 1)
        rw [inF_iff] at no
        refine callC_at (in_ev _ _ _) ?_
        simp -implicitDefEqProofs (disch := omega) only [go_sem, ↓reduceIte, Nat.reduceEqDiff, Nat.reduceMul, Nat.reduceAdd, Nat.reduceDiv, Nat.reduceBEq, Nat.reduceLeDiff, Int.reduceToNat, Int.reduceNe, Int.reduceEq, Int.reduceLT, Int.reduceLE, Int.reduceBEq, Int.reduceBNe, ne_eq, not_true_eq_false, not_false_eq_true, decide_true, decide_false, List.length_map, h0, h1, h2, h7, h8]
        repeat' (first | ((with_reducible refine branch_mk (fun hb => ?_) (fun hb => ?_)) <;> simp -implicitDefEqProofs (disch := omega) only [go_sem, ↓reduceIte, Nat.reduceEqDiff, Nat.reduceMul, Nat.reduceAdd, Nat.reduceDiv, Nat.reduceBEq, Nat.reduceLeDiff, Int.reduceToNat, Int.reduceNe, Int.reduceEq, Int.reduceLT, Int.reduceLE, Int.reduceBEq, Int.reduceBNe, ne_eq, not_true_eq_false, not_false_eq_true, decide_true, decide_false, List.length_map, h0, h1, h2, h7, h8, Try.results15, hb]))
        · rw [inF_not] at hb
          rw [no (by omega)]
        · rw [no (by omega)]
        all_goals
          have hcl : gd k c = -1 ∨ (0 ≤ gd k c ∧ gd k c ≤ (h.length : Int) - 1 ∧ (h.length : Int) - 1 - lag ≤ gd k c) := by
            simp only [inF_not, inF_iff, Bool.not_eq_false] at *; omega
          refine loopC_mk (fun n E σ => ∃ v : Nat, 1 ≤ v ∧ v + n = h.length ∧ E 0 = SL h ∧ E 1 = SL k ∧ E 2 = I lag ∧ E 7 = I (h.length - 1) ∧ E 8 = I c ∧ E 9 = I v ∧
            ∀ i : Nat, 1 ≤ i → i < v → turnsF h c i → gd k c = -1 ∨ (i : Int) ≤ gd k c) (h.length - 1) ⟨1, by omega, by omega, ?_⟩ ?_
          · simp -implicitDefEqProofs (disch := omega) only [go_sem, ↓reduceIte, Nat.reduceEqDiff, Nat.reduceMul, Nat.reduceAdd, Nat.reduceDiv, Nat.reduceBEq, Nat.reduceLeDiff, Int.reduceToNat, Int.reduceNe, Int.reduceEq, Int.reduceLT, Int.reduceLE, Int.reduceBEq, Int.reduceBNe, ne_eq, not_true_eq_false, not_false_eq_true, decide_true, decide_false, List.length_map, h0, h1, h2, h7, h8]
            exact ⟨by simp, fun i h1 h2 => by omega⟩
          · clear h0 h1 h2 h7 h8 σ E
            rintro n' E σ ⟨v, hv1, hv, h0, h1, h2, h7, h8, h9, hin⟩
            simp -implicitDefEqProofs (disch := omega) only [go_sem, ↓reduceIte, Nat.reduceEqDiff, Nat.reduceMul, Nat.reduceAdd, Nat.reduceDiv, Nat.reduceBEq, Nat.reduceLeDiff, Int.reduceToNat, Int.reduceNe, Int.reduceEq, Int.reduceLT, Int.reduceLE, Int.reduceBEq, Int.reduceBNe, ne_eq, not_true_eq_false, not_false_eq_true, decide_true, decide_false, List.length_map, h0, h1, h2, h7, h8, h9]
            refine branch_mk (fun hd => ?_) (fun hd => ?_)
            · simp -implicitDefEqProofs (disch := omega) only [go_sem, ↓reduceIte, Nat.reduceEqDiff, Nat.reduceMul, Nat.reduceAdd, Nat.reduceDiv, Nat.reduceBEq, Nat.reduceLeDiff, Int.reduceToNat, Int.reduceNe, Int.reduceEq, Int.reduceLT, Int.reduceLE, Int.reduceBEq, Int.reduceBNe, ne_eq, not_true_eq_false, not_false_eq_true, decide_true, decide_false, List.length_map, h0, h1, h2, h7, h8, h9]
              have ev1 : ((v : Int) - 1).toNat = v - 1 := by omega
              repeat' (first | ((with_reducible refine branch_mk (fun hb => ?_) (fun hb => ?_)) <;> simp -implicitDefEqProofs (disch := omega) only [go_sem, ↓reduceIte, Nat.reduceEqDiff, Nat.reduceMul, Nat.reduceAdd, Nat.reduceDiv, Nat.reduceBEq, Nat.reduceLeDiff, Int.reduceToNat, Int.reduceNe, Int.reduceEq, Int.reduceLT, Int.reduceLE, Int.reduceBEq, Int.reduceBNe, ne_eq, not_true_eq_false, not_false_eq_true, decide_true, decide_false, List.length_map, h0, h1, h2, h7, h8, h9, ev1, Try.results15, hb]))
              all_goals (try simp only [ev1] at *)
              all_goals first
                | (rw [no (by
                    rintro (h3 | ⟨h3, h4⟩)
                    · omega
                    · have := (hle.1 h3).2.2 v hv1 (by omega) (by unfold turnsF; omega)
                      omega)])
                | (refine againQ_mk (n' - 1) (by omega) ⟨v + 1, by omega, by omega, ?_⟩
                   simp -implicitDefEqProofs (disch := omega) only [go_sem, ↓reduceIte, Nat.reduceEqDiff, Nat.reduceMul, Nat.reduceAdd, Nat.reduceDiv, Nat.reduceBEq, Nat.reduceLeDiff, Int.reduceToNat, Int.reduceNe, Int.reduceEq, Int.reduceLT, Int.reduceLE, Int.reduceBEq, Int.reduceBNe, ne_eq, not_true_eq_false, not_false_eq_true, decide_true, decide_false, List.length_map, h0, h1, h2, h7, h8, h9]
                   refine ⟨by simp, fun i h3 h4 h5 => ?_⟩
                   by_cases e : i = v
                   · subst e; unfold turnsF at h5; omega
                   · exact hin i h3 (by omega) h5)
            · simp -implicitDefEqProofs (disch := omega) only [go_sem, ↓reduceIte, Nat.reduceEqDiff, Nat.reduceMul, Nat.reduceAdd, Nat.reduceDiv, Nat.reduceBEq, Nat.reduceLeDiff, Int.reduceToNat, Int.reduceNe, Int.reduceEq, Int.reduceLT, Int.reduceLE, Int.reduceBEq, Int.reduceBNe, ne_eq, not_true_eq_false, not_false_eq_true, decide_true, decide_false, List.length_map, h0, h1, h2, h7, h8, h9]
              refine againQ_mk (n - 1) (by omega) ⟨c + 1, by omega, ?_⟩
              simp -implicitDefEqProofs (disch := omega) only [go_sem, ↓reduceIte, Nat.reduceEqDiff, Nat.reduceMul, Nat.reduceAdd, Nat.reduceDiv, Nat.reduceBEq, Nat.reduceLeDiff, Int.reduceToNat, Int.reduceNe, Int.reduceEq, Int.reduceLT, Int.reduceLE, Int.reduceBEq, Int.reduceBNe, ne_eq, not_true_eq_false, not_false_eq_true, decide_true, decide_false, List.length_map, h0, h1, h2, h7, h8, h9]
              refine ⟨by simp, fun i hi => ?_⟩
              by_cases e : i = c
              · subst e
                rcases hcl with hcl | ⟨h3, h4, h5⟩
                · exact .inl hcl
                · refine .inr ((inF_iff _ _ _).2 ⟨hle.2 ⟨h3, h5, fun i h6 h7 h8 => ?_⟩, h4⟩)
                  have := hin i h6 (by omega) h8; omega
              · exact hall i (by omega)
      · simp -implicitDefEqProofs (disch := omega) only [go_sem, ↓reduceIte, Nat.reduceEqDiff, Nat.reduceMul, Nat.reduceAdd, Nat.reduceDiv, Nat.reduceBEq, Nat.reduceLeDiff, Int.reduceToNat, Int.reduceNe, Int.reduceEq, Int.reduceLT, Int.reduceLE, Int.reduceBEq, Int.reduceBNe, ne_eq, not_true_eq_false, not_false_eq_true, decide_true, decide_false, List.length_map, Try.results15]
        have : validF h k lag = true := by
          simp only [validF, Bool.and_eq_true]
          refine ⟨⟨⟨hho, by simp [hk8]⟩, (inF_iff _ _ _).2 hlag⟩, List.all_eq_true.2 fun i hi => ?_⟩
          have := List.mem_range.1 hi
          simpa using hall i (by omega)
        rw [this]

end Go.Proofs.Ytmiahmpobpokmaa

/- The contracts of chapter 24: deciding. -/
set_option maxRecDepth 100000
set_option linter.unusedSimpArgs false
namespace Go.Proofs.Ytmiahmpobpokmaa
open Go.Vai Go Go.Proofs

theorem up_ev (k : List Int) (c : Int) (hk : k.length = 8) : Ev Try.prog 38 [SL k, I c] (B (decide (0 ≤ c ∧ c ≤ 7) && decide (0 ≤ gd k c.toNat))) := by
  refine ev_of Try.func38 rfl (by kernel_rfl) mo (Nat.le_of_ble_eq_true rfl) ?_
  simp -implicitDefEqProofs (disch := omega) only [go_sem, ↓reduceIte, Nat.reduceEqDiff, Nat.reduceMul, Nat.reduceAdd, Nat.reduceDiv, Nat.reduceBEq, Nat.reduceLeDiff, Int.reduceToNat, Int.reduceNe, Int.reduceEq, Int.reduceLT, Int.reduceLE, Int.reduceBEq, Int.reduceBNe, ne_eq, not_true_eq_false, not_false_eq_true, decide_true, decide_false, List.length_map, Try.ntmps38]
  refine callC_at (in_ev _ _ _) ?_
  simp -implicitDefEqProofs (disch := omega) only [go_sem, ↓reduceIte, Nat.reduceEqDiff, Nat.reduceMul, Nat.reduceAdd, Nat.reduceDiv, Nat.reduceBEq, Nat.reduceLeDiff, Int.reduceToNat, Int.reduceNe, Int.reduceEq, Int.reduceLT, Int.reduceLE, Int.reduceBEq, Int.reduceBNe, ne_eq, not_true_eq_false, not_false_eq_true, decide_true, decide_false, List.length_map]
  refine branch_mk (fun hb => ?_) (fun hb => ?_)
  · rw [inF_not] at hb
    simp -implicitDefEqProofs (disch := omega) only [go_sem, ↓reduceIte, Nat.reduceEqDiff, Nat.reduceMul, Nat.reduceAdd, Nat.reduceDiv, Nat.reduceBEq, Nat.reduceLeDiff, Int.reduceToNat, Int.reduceNe, Int.reduceEq, Int.reduceLT, Int.reduceLE, Int.reduceBEq, Int.reduceBNe, ne_eq, not_true_eq_false, not_false_eq_true, decide_true, decide_false, List.length_map, Try.results38]
    simp [hb]
  · have hb := (inF_iff _ _ _).1 (by simpa using hb)
    simp -implicitDefEqProofs (disch := omega) only [go_sem, ↓reduceIte, Nat.reduceEqDiff, Nat.reduceMul, Nat.reduceAdd, Nat.reduceDiv, Nat.reduceBEq, Nat.reduceLeDiff, Int.reduceToNat, Int.reduceNe, Int.reduceEq, Int.reduceLT, Int.reduceLE, Int.reduceBEq, Int.reduceBNe, ne_eq, not_true_eq_false, not_false_eq_true, decide_true, decide_false, List.length_map, Try.results38]
    simp [hb]

theorem decideF_1 {h k : List Int} {c u : Int} (h1 : gd h (max (gd k c.toNat) u).toNat = c) : decideF h k c u = (max (gd k c.toNat) u, -1, 1) := by
  unfold decideF; rw [if_pos h1]
theorem decideF_2 {h k : List Int} {c u : Int} (h1 : ¬ gd h (max (gd k c.toNat) u).toNat = c) (h2 : gd h (max (gd k c.toNat) u).toNat < 0) : decideF h k c u = (max (gd k c.toNat) u, -1, 2) := by
  unfold decideF; rw [if_neg h1, if_pos h2]
theorem decideF_3 {h k : List Int} {c u : Int} (h1 : ¬ gd h (max (gd k c.toNat) u).toNat = c) (h2 : ¬ gd h (max (gd k c.toNat) u).toNat < 0) (h3 : gd k (gd h (max (gd k c.toNat) u).toNat).toNat < 0) : decideF h k c u = (max (gd k c.toNat) u, -1, 3) := by
  unfold decideF; rw [if_neg h1, if_neg h2, if_pos h3]
theorem decideF_4 {h k : List Int} {c u : Int} (h1 : ¬ gd h (max (gd k c.toNat) u).toNat = c) (h2 : ¬ gd h (max (gd k c.toNat) u).toNat < 0) (h3 : ¬ gd k (gd h (max (gd k c.toNat) u).toNat).toNat < 0) : decideF h k c u = (max (gd k c.toNat) u, gd h (max (gd k c.toNat) u).toNat, 0) := by
  unfold decideF; rw [if_neg h1, if_neg h2, if_neg h3]
theorem decide_ev (h k : List Int) (c u : Int) (hc : 0 ≤ c ∧ c < k.length) (hw : 0 ≤ max (gd k c.toNat) u ∧ max (gd k c.toNat) u < h.length) (hx : gd h (max (gd k c.toNat) u).toNat < k.length) : Ev Try.prog 41 [SL h, SL k, I c, I u] (T3 (decideF h k c u)) := by
  refine ev_of Try.func41 rfl (by kernel_rfl) mo (Nat.le_of_ble_eq_true rfl) ?_
  simp -implicitDefEqProofs (disch := omega) only [go_sem, ↓reduceIte, Nat.reduceEqDiff, Nat.reduceMul, Nat.reduceAdd, Nat.reduceDiv, Nat.reduceBEq, Nat.reduceLeDiff, Int.reduceToNat, Int.reduceNe, Int.reduceEq, Int.reduceLT, Int.reduceLE, Int.reduceBEq, Int.reduceBNe, ne_eq, not_true_eq_false, not_false_eq_true, decide_true, decide_false, List.length_map, Try.ntmps41]
  repeat' (first | ((with_reducible refine branch_mk (fun hb => ?_) (fun hb => ?_)) <;> simp -implicitDefEqProofs (disch := omega) only [go_sem, ↓reduceIte, Nat.reduceEqDiff, Nat.reduceMul, Nat.reduceAdd, Nat.reduceDiv, Nat.reduceBEq, Nat.reduceLeDiff, Int.reduceToNat, Int.reduceNe, Int.reduceEq, Int.reduceLT, Int.reduceLE, Int.reduceBEq, Int.reduceBNe, ne_eq, not_true_eq_false, not_false_eq_true, decide_true, decide_false, List.length_map, Try.results41, hb]))
  · rw [decideF_1 (by omega)]; rfl
  · rw [decideF_2 (by omega) (by omega)]; rfl
  · rw [decideF_3 (by omega) (by omega) (by omega)]; rfl
  · rw [decideF_4 (by omega) (by omega) (by omega)]; rfl
theorem decideR_ev (h k : List Int) (c u : Int) (hc : 0 ≤ c ∧ c < k.length) (hw : 0 ≤ max (gd k c.toNat) u ∧ max (gd k c.toNat) u < h.length) (hx : -1 ≤ gd h (max (gd k c.toNat) u).toNat ∧ gd h (max (gd k c.toNat) u).toNat < k.length) : Ev Try.prog 39 [SL h, SL k, I c, I u] (T3 (decideF h k c u)) := by
  refine ev_of Try.func39 rfl (by kernel_rfl) mo (Nat.le_of_ble_eq_true rfl) ?_
  simp -implicitDefEqProofs (disch := omega) only [go_sem, ↓reduceIte, Nat.reduceEqDiff, Nat.reduceMul, Nat.reduceAdd, Nat.reduceDiv, Nat.reduceBEq, Nat.reduceLeDiff, Int.reduceToNat, Int.reduceNe, Int.reduceEq, Int.reduceLT, Int.reduceLE, Int.reduceBEq, Int.reduceBNe, ne_eq, not_true_eq_false, not_false_eq_true, decide_true, decide_false, List.length_map, Try.ntmps39]
  repeat' (first | ((with_reducible refine branch_mk (fun hb => ?_) (fun hb => ?_)) <;> simp -implicitDefEqProofs (disch := omega) only [go_sem, ↓reduceIte, Nat.reduceEqDiff, Nat.reduceMul, Nat.reduceAdd, Nat.reduceDiv, Nat.reduceBEq, Nat.reduceLeDiff, Int.reduceToNat, Int.reduceNe, Int.reduceEq, Int.reduceLT, Int.reduceLE, Int.reduceBEq, Int.reduceBNe, ne_eq, not_true_eq_false, not_false_eq_true, decide_true, decide_false, List.length_map, Try.results39, hb]))
  · rw [decideF_1 (by omega)]; rfl
  · rw [decideF_2 (by omega) (by omega)]; rfl
  · rw [decideF_3 (by omega) (by omega) (by omega)]; rfl
  · rw [decideF_4 (by omega) (by omega) (by omega)]; rfl
theorem canCall_ev (h k : List Int) (lag c : Int) (hh : h.length ≤ 9223372036854775807) (hk : k.length ≤ 9223372036854775807) (hl : R64 lag) : Ev Try.prog 36 [SL h, SL k, I lag, I c] (B (canF h k lag c)) := by
  refine ev_of Try.func36 rfl (by kernel_rfl) mo (Nat.le_of_ble_eq_true rfl) ?_
  simp -implicitDefEqProofs (disch := omega) only [go_sem, ↓reduceIte, Nat.reduceEqDiff, Nat.reduceMul, Nat.reduceAdd, Nat.reduceDiv, Nat.reduceBEq, Nat.reduceLeDiff, Int.reduceToNat, Int.reduceNe, Int.reduceEq, Int.reduceLT, Int.reduceLE, Int.reduceBEq, Int.reduceBNe, ne_eq, not_true_eq_false, not_false_eq_true, decide_true, decide_false, List.length_map, Try.ntmps36]
  refine callC_at (valid_ev h k lag hh hk hl) ?_
  simp -implicitDefEqProofs (disch := omega) only [go_sem, ↓reduceIte, Nat.reduceEqDiff, Nat.reduceMul, Nat.reduceAdd, Nat.reduceDiv, Nat.reduceBEq, Nat.reduceLeDiff, Int.reduceToNat, Int.reduceNe, Int.reduceEq, Int.reduceLT, Int.reduceLE, Int.reduceBEq, Int.reduceBNe, ne_eq, not_true_eq_false, not_false_eq_true, decide_true, decide_false, List.length_map]
  refine branch_mk (fun hv => ?_) (fun hv => ?_)
  · have hv := valid_holders hv
    simp -implicitDefEqProofs (disch := omega) only [go_sem, ↓reduceIte, Nat.reduceEqDiff, Nat.reduceMul, Nat.reduceAdd, Nat.reduceDiv, Nat.reduceBEq, Nat.reduceLeDiff, Int.reduceToNat, Int.reduceNe, Int.reduceEq, Int.reduceLT, Int.reduceLE, Int.reduceBEq, Int.reduceBNe, ne_eq, not_true_eq_false, not_false_eq_true, decide_true, decide_false, List.length_map]
    refine callC_at (isWithin_ev _ _ _) ?_
    simp -implicitDefEqProofs (disch := omega) only [go_sem, ↓reduceIte, Nat.reduceEqDiff, Nat.reduceMul, Nat.reduceAdd, Nat.reduceDiv, Nat.reduceBEq, Nat.reduceLeDiff, Int.reduceToNat, Int.reduceNe, Int.reduceEq, Int.reduceLT, Int.reduceLE, Int.reduceBEq, Int.reduceBNe, ne_eq, not_true_eq_false, not_false_eq_true, decide_true, decide_false, List.length_map]
    refine branch_mk (fun hb => ?_) (fun hb => ?_)
    · have hb := (inF_iff _ _ _).1 hb
      simp -implicitDefEqProofs (disch := omega) only [go_sem, ↓reduceIte, Nat.reduceEqDiff, Nat.reduceMul, Nat.reduceAdd, Nat.reduceDiv, Nat.reduceBEq, Nat.reduceLeDiff, Int.reduceToNat, Int.reduceNe, Int.reduceEq, Int.reduceLT, Int.reduceLE, Int.reduceBEq, Int.reduceBNe, ne_eq, not_true_eq_false, not_false_eq_true, decide_true, decide_false, List.length_map, Try.results36]
      simp_all [canF]
    · simp -implicitDefEqProofs (disch := omega) only [go_sem, ↓reduceIte, Nat.reduceEqDiff, Nat.reduceMul, Nat.reduceAdd, Nat.reduceDiv, Nat.reduceBEq, Nat.reduceLeDiff, Int.reduceToNat, Int.reduceNe, Int.reduceEq, Int.reduceLT, Int.reduceLE, Int.reduceBEq, Int.reduceBNe, ne_eq, not_true_eq_false, not_false_eq_true, decide_true, decide_false, List.length_map, Try.results36]
      have hb := (inF_not _ _ _).1 (by simpa using hb)
      have : canF h k lag c = false := by
        simp only [canF, Bool.and_eq_false_iff, decide_eq_false_iff_not]
        exact .inr (.inl hb)
      rw [this]
  · simp -implicitDefEqProofs (disch := omega) only [go_sem, ↓reduceIte, Nat.reduceEqDiff, Nat.reduceMul, Nat.reduceAdd, Nat.reduceDiv, Nat.reduceBEq, Nat.reduceLeDiff, Int.reduceToNat, Int.reduceNe, Int.reduceEq, Int.reduceLT, Int.reduceLE, Int.reduceBEq, Int.reduceBNe, ne_eq, not_true_eq_false, not_false_eq_true, decide_true, decide_false, List.length_map, Try.results36]
    simp_all [canF]
/-- What is decided lies in the range. -/
theorem decide_in {h k : List Int} {lag c u : Int} (hcan : canF h k lag c = true) (hu : inF u (-1) ((h.length : Int) - 1) = true) :
    (0 ≤ c ∧ c < k.length) ∧ (0 ≤ max (gd k c.toNat) u ∧ max (gd k c.toNat) u < h.length) ∧ (-1 ≤ gd h (max (gd k c.toNat) u).toNat ∧ gd h (max (gd k c.toNat) u).toNat < k.length) := by
  simp only [canF, Bool.and_eq_true, decide_eq_true_eq] at hcan
  obtain ⟨hv, hc, hk⟩ := hcan
  obtain ⟨h1, h2, h3, h4, h5, h6⟩ := valid_holders hv
  have hu := (inF_iff _ _ _).1 hu
  have := valid_known' hv c.toNat (by omega)
  have := holders_at h1 (max (gd k c.toNat) u).toNat (by omega)
  omega
theorem Decide_ev (h k : List Int) (lag c u : Int) (hh : h.length ≤ 9223372036854775807) (hk : k.length ≤ 9223372036854775807) (hl : R64 lag) : Ev Try.prog 22 [SL h, SL k, I lag, I c, I u] (decR h k lag c u) := by
  refine ev_of Try.func22 rfl (by kernel_rfl) mo (Nat.le_of_ble_eq_true rfl) ?_
  simp -implicitDefEqProofs (disch := omega) only [go_sem, ↓reduceIte, Nat.reduceEqDiff, Nat.reduceMul, Nat.reduceAdd, Nat.reduceDiv, Nat.reduceBEq, Nat.reduceLeDiff, Int.reduceToNat, Int.reduceNe, Int.reduceEq, Int.reduceLT, Int.reduceLE, Int.reduceBEq, Int.reduceBNe, ne_eq, not_true_eq_false, not_false_eq_true, decide_true, decide_false, List.length_map, Try.ntmps22]
  refine callC_at (canCall_ev h k lag c hh hk hl) ?_
  simp -implicitDefEqProofs (disch := omega) only [go_sem, ↓reduceIte, Nat.reduceEqDiff, Nat.reduceMul, Nat.reduceAdd, Nat.reduceDiv, Nat.reduceBEq, Nat.reduceLeDiff, Int.reduceToNat, Int.reduceNe, Int.reduceEq, Int.reduceLT, Int.reduceLE, Int.reduceBEq, Int.reduceBNe, ne_eq, not_true_eq_false, not_false_eq_true, decide_true, decide_false, List.length_map]
  repeat' (first | ((with_reducible refine branch_mk (fun hb => ?_) (fun hb => ?_)) <;> simp -implicitDefEqProofs (disch := omega) only [go_sem, ↓reduceIte, Nat.reduceEqDiff, Nat.reduceMul, Nat.reduceAdd, Nat.reduceDiv, Nat.reduceBEq, Nat.reduceLeDiff, Int.reduceToNat, Int.reduceNe, Int.reduceEq, Int.reduceLT, Int.reduceLE, Int.reduceBEq, Int.reduceBNe, ne_eq, not_true_eq_false, not_false_eq_true, decide_true, decide_false, List.length_map, Try.results22, hb]) | ((with_reducible refine callC_id ?_); refine callC_at (isWithin_ev _ _ _) ?_; try simp -implicitDefEqProofs (disch := omega) only [go_sem, ↓reduceIte, Nat.reduceEqDiff, Nat.reduceMul, Nat.reduceAdd, Nat.reduceDiv, Nat.reduceBEq, Nat.reduceLeDiff, Int.reduceToNat, Int.reduceNe, Int.reduceEq, Int.reduceLT, Int.reduceLE, Int.reduceBEq, Int.reduceBNe, ne_eq, not_true_eq_false, not_false_eq_true, decide_true, decide_false, List.length_map, Try.results22]))
  · simp [decR, hb]
  · simp [decR, hb]
  · rename_i hcan
    obtain ⟨h1, h2, h3⟩ := decide_in (h := h) (k := k) (lag := lag) (c := c) (u := u) (by simpa using hcan) (by simpa using hb)
    refine callC_at (decide_ev h k c u h1 h2 h3.2) ?_
    simp -implicitDefEqProofs (disch := omega) only [go_sem, ↓reduceIte, Nat.reduceEqDiff, Nat.reduceMul, Nat.reduceAdd, Nat.reduceDiv, Nat.reduceBEq, Nat.reduceLeDiff, Int.reduceToNat, Int.reduceNe, Int.reduceEq, Int.reduceLT, Int.reduceLE, Int.reduceBEq, Int.reduceBNe, ne_eq, not_true_eq_false, not_false_eq_true, decide_true, decide_false, List.length_map, T3, Try.results22]
    rw [decR, if_pos ⟨by simpa using hcan, by simpa using hb⟩]
theorem DecideR_ev (h k : List Int) (lag c u : Int) (hh : h.length ≤ 9223372036854775807) (hk : k.length ≤ 9223372036854775807) (hl : R64 lag) : Ev Try.prog 23 [SL h, SL k, I lag, I c, I u] (decR h k lag c u) := by
  refine ev_of Try.func23 rfl (by kernel_rfl) mo (Nat.le_of_ble_eq_true rfl) ?_
  simp -implicitDefEqProofs (disch := omega) only [go_sem, ↓reduceIte, Nat.reduceEqDiff, Nat.reduceMul, Nat.reduceAdd, Nat.reduceDiv, Nat.reduceBEq, Nat.reduceLeDiff, Int.reduceToNat, Int.reduceNe, Int.reduceEq, Int.reduceLT, Int.reduceLE, Int.reduceBEq, Int.reduceBNe, ne_eq, not_true_eq_false, not_false_eq_true, decide_true, decide_false, List.length_map, Try.ntmps23]
  refine callC_at (validR_ev h k lag hh hk hl) ?_
  simp -implicitDefEqProofs (disch := omega) only [go_sem, ↓reduceIte, Nat.reduceEqDiff, Nat.reduceMul, Nat.reduceAdd, Nat.reduceDiv, Nat.reduceBEq, Nat.reduceLeDiff, Int.reduceToNat, Int.reduceNe, Int.reduceEq, Int.reduceLT, Int.reduceLE, Int.reduceBEq, Int.reduceBNe, ne_eq, not_true_eq_false, not_false_eq_true, decide_true, decide_false, List.length_map]
  repeat' (first | ((with_reducible refine branch_mk (fun hb => ?_) (fun hb => ?_)) <;> simp -implicitDefEqProofs (disch := omega) only [go_sem, ↓reduceIte, Nat.reduceEqDiff, Nat.reduceMul, Nat.reduceAdd, Nat.reduceDiv, Nat.reduceBEq, Nat.reduceLeDiff, Int.reduceToNat, Int.reduceNe, Int.reduceEq, Int.reduceLT, Int.reduceLE, Int.reduceBEq, Int.reduceBNe, ne_eq, not_true_eq_false, not_false_eq_true, decide_true, decide_false, List.length_map, Try.results23, hb]) | ((with_reducible refine callC_id ?_); refine callC_at (in_ev _ _ _) ?_; try simp -implicitDefEqProofs (disch := omega) only [go_sem, ↓reduceIte, Nat.reduceEqDiff, Nat.reduceMul, Nat.reduceAdd, Nat.reduceDiv, Nat.reduceBEq, Nat.reduceLeDiff, Int.reduceToNat, Int.reduceNe, Int.reduceEq, Int.reduceLT, Int.reduceLE, Int.reduceBEq, Int.reduceBNe, ne_eq, not_true_eq_false, not_false_eq_true, decide_true, decide_false, List.length_map, Try.results23]))
  · simp [decR, canF, hb]
  · simp [decR, hb]
  · rename_i hv
    have hv : validF h k lag = true := by simpa using hv
    refine callC_at (up_ev k c (valid_holders hv).2.1) ?_
    simp -implicitDefEqProofs (disch := omega) only [go_sem, ↓reduceIte, Nat.reduceEqDiff, Nat.reduceMul, Nat.reduceAdd, Nat.reduceDiv, Nat.reduceBEq, Nat.reduceLeDiff, Int.reduceToNat, Int.reduceNe, Int.reduceEq, Int.reduceLT, Int.reduceLE, Int.reduceBEq, Int.reduceBNe, ne_eq, not_true_eq_false, not_false_eq_true, decide_true, decide_false, List.length_map]
    refine branch_mk (fun hc => ?_) (fun hc => ?_)
    · simp -implicitDefEqProofs (disch := omega) only [go_sem, ↓reduceIte, Nat.reduceEqDiff, Nat.reduceMul, Nat.reduceAdd, Nat.reduceDiv, Nat.reduceBEq, Nat.reduceLeDiff, Int.reduceToNat, Int.reduceNe, Int.reduceEq, Int.reduceLT, Int.reduceLE, Int.reduceBEq, Int.reduceBNe, ne_eq, not_true_eq_false, not_false_eq_true, decide_true, decide_false, List.length_map, Try.results23]
      rw [decR, if_neg]
      rintro ⟨h1, _⟩
      simp only [canF, hv, Bool.true_and] at h1
      rw [h1] at hc; cases hc
    · simp -implicitDefEqProofs (disch := omega) only [go_sem, ↓reduceIte, Nat.reduceEqDiff, Nat.reduceMul, Nat.reduceAdd, Nat.reduceDiv, Nat.reduceBEq, Nat.reduceLeDiff, Int.reduceToNat, Int.reduceNe, Int.reduceEq, Int.reduceLT, Int.reduceLE, Int.reduceBEq, Int.reduceBNe, ne_eq, not_true_eq_false, not_false_eq_true, decide_true, decide_false, List.length_map]
      have hcan : canF h k lag c = true := by
        simp only [canF, hv, Bool.true_and]
        simpa [and_assoc] using hc
      obtain ⟨h1, h2, h3⟩ := decide_in (h := h) (k := k) (lag := lag) (c := c) (u := u) hcan (by simpa using hb)
      refine callC_at (decideR_ev h k c u h1 h2 h3) ?_
      simp -implicitDefEqProofs (disch := omega) only [go_sem, ↓reduceIte, Nat.reduceEqDiff, Nat.reduceMul, Nat.reduceAdd, Nat.reduceDiv, Nat.reduceBEq, Nat.reduceLeDiff, Int.reduceToNat, Int.reduceNe, Int.reduceEq, Int.reduceLT, Int.reduceLE, Int.reduceBEq, Int.reduceBNe, ne_eq, not_true_eq_false, not_false_eq_true, decide_true, decide_false, List.length_map, T3, Try.results23]
      rw [decR, if_pos ⟨hcan, by simpa using hb⟩]
end Go.Proofs.Ytmiahmpobpokmaa

/- The contracts of chapter 24: what integers determine. -/
set_option maxRecDepth 100000
set_option linter.unusedSimpArgs false
namespace Go.Proofs.Ytmiahmpobpokmaa
open Go.Vai Go Go.Proofs

theorem least_ev (h : List Int) (lag c : Int) (h1 : 0 < h.length) (h2 : h.length < 1000000) (h3 : 0 ≤ lag) (h4 : lag < 1000000) : Ev Try.prog 44 [SL h, I lag, I c] (I (leastF h lag c (h.length - 1))) := by
  refine ev_of Try.func44 rfl (by kernel_rfl) mo (Nat.le_of_ble_eq_true rfl) ?_
  simp -implicitDefEqProofs (disch := omega) only [go_sem, ↓reduceIte, Nat.reduceEqDiff, Nat.reduceMul, Nat.reduceAdd, Nat.reduceDiv, Nat.reduceBEq, Nat.reduceLeDiff, Int.reduceToNat, Int.reduceNe, Int.reduceEq, Int.reduceLT, Int.reduceLE, Int.reduceBEq, Int.reduceBNe, ne_eq, not_true_eq_false, not_false_eq_true, decide_true, decide_false, List.length_map, Try.ntmps44]
  refine loopC_mk (fun n E σ => ∃ v : Nat, 1 ≤ v ∧ v + n = h.length ∧ E 0 = SL h ∧ E 1 = I lag ∧ E 2 = I c ∧ E 7 = I (h.length - 1) ∧ E 8 = I (leastF h lag c (v - 1)) ∧ E 9 = I v ∧ E 6 = I 0) (h.length - 1) ⟨1, by omega, by omega, ?_⟩ ?_
  · simp -implicitDefEqProofs (disch := omega) only [go_sem, ↓reduceIte, Nat.reduceEqDiff, Nat.reduceMul, Nat.reduceAdd, Nat.reduceDiv, Nat.reduceBEq, Nat.reduceLeDiff, Int.reduceToNat, Int.reduceNe, Int.reduceEq, Int.reduceLT, Int.reduceLE, Int.reduceBEq, Int.reduceBNe, ne_eq, not_true_eq_false, not_false_eq_true, decide_true, decide_false, List.length_map]
    simp [leastF]
  · rintro n E σ ⟨v, hv1, hvn, h0, h1, h2, h7, h8, h9, h6⟩
    simp -implicitDefEqProofs (disch := omega) only [go_sem, ↓reduceIte, Nat.reduceEqDiff, Nat.reduceMul, Nat.reduceAdd, Nat.reduceDiv, Nat.reduceBEq, Nat.reduceLeDiff, Int.reduceToNat, Int.reduceNe, Int.reduceEq, Int.reduceLT, Int.reduceLE, Int.reduceBEq, Int.reduceBNe, ne_eq, not_true_eq_false, not_false_eq_true, decide_true, decide_false, List.length_map, h0, h1, h2, h7, h8, h9]
    refine branch_mk (fun hc => ?_) (fun hc => ?_)
    · have ev1 : ((v : Int) - 1).toNat = v - 1 := by omega
      simp -implicitDefEqProofs (disch := omega) only [go_sem, ↓reduceIte, Nat.reduceEqDiff, Nat.reduceMul, Nat.reduceAdd, Nat.reduceDiv, Nat.reduceBEq, Nat.reduceLeDiff, Int.reduceToNat, Int.reduceNe, Int.reduceEq, Int.reduceLT, Int.reduceLE, Int.reduceBEq, Int.reduceBNe, ne_eq, not_true_eq_false, not_false_eq_true, decide_true, decide_false, List.length_map, h0, h1, h2, h7, h8, h9, ev1]
      have up : turnsF h c v → leastF h lag c v = max (leastF h lag c (v - 1)) v := fun ht => by
        rw [show v = (v - 1) + 1 from by omega] at ht ⊢
        rw [leastF.eq_2, if_pos ht]; rfl
      have no : ¬ turnsF h c v → leastF h lag c v = leastF h lag c (v - 1) := fun ht => by
        rw [show v = (v - 1) + 1 from by omega] at ht ⊢
        rw [leastF.eq_2, if_neg ht]; rfl
      repeat' (first | ((with_reducible refine branch_mk (fun hb => ?_) (fun hb => ?_)) <;> simp -implicitDefEqProofs (disch := omega) only [go_sem, ↓reduceIte, Nat.reduceEqDiff, Nat.reduceMul, Nat.reduceAdd, Nat.reduceDiv, Nat.reduceBEq, Nat.reduceLeDiff, Int.reduceToNat, Int.reduceNe, Int.reduceEq, Int.reduceLT, Int.reduceLE, Int.reduceBEq, Int.reduceBNe, ne_eq, not_true_eq_false, not_false_eq_true, decide_true, decide_false, List.length_map, h0, h1, h2, h7, h8, h9, h6, ev1, hb]))
      all_goals
        refine againQ_mk (n - 1) (by omega) ⟨v + 1, by omega, by omega, ?_⟩
        simp -implicitDefEqProofs (disch := omega) only [go_sem, ↓reduceIte, Nat.reduceEqDiff, Nat.reduceMul, Nat.reduceAdd, Nat.reduceDiv, Nat.reduceBEq, Nat.reduceLeDiff, Int.reduceToNat, Int.reduceNe, Int.reduceEq, Int.reduceLT, Int.reduceLE, Int.reduceBEq, Int.reduceBNe, ne_eq, not_true_eq_false, not_false_eq_true, decide_true, decide_false, List.length_map, h0, h1, h2, h7, h8, h9, h6]
        refine ⟨?_, by simp⟩
        rw [show v + 1 - 1 = v from by omega]
        first
          | (rw [up (by unfold turnsF; simp only [ev1] at *; omega)]; done)
          | (rw [no (by unfold turnsF; simp only [ev1] at *; omega)]; done)
    · simp -implicitDefEqProofs (disch := omega) only [go_sem, ↓reduceIte, Nat.reduceEqDiff, Nat.reduceMul, Nat.reduceAdd, Nat.reduceDiv, Nat.reduceBEq, Nat.reduceLeDiff, Int.reduceToNat, Int.reduceNe, Int.reduceEq, Int.reduceLT, Int.reduceLE, Int.reduceBEq, Int.reduceBNe, ne_eq, not_true_eq_false, not_false_eq_true, decide_true, decide_false, List.length_map, h0, h1, h2, h7, h8, h9, Try.results44]
      rw [show v - 1 = h.length - 1 from by omega]

theorem ints_ev (a b : List Int) (ha : a.length ≤ 9223372036854775807) (hb : b.length ≤ 9223372036854775807) : Ev Try.prog 21 [SL a, SL b] (B (a == b)) := by
  refine ev_of Try.func21 rfl (by kernel_rfl) mo (Nat.le_of_ble_eq_true rfl) ?_
  simp -implicitDefEqProofs (disch := omega) only [go_sem, ↓reduceIte, Nat.reduceEqDiff, Nat.reduceMul, Nat.reduceAdd, Nat.reduceDiv, Nat.reduceBEq, Nat.reduceLeDiff, Int.reduceToNat, Int.reduceNe, Int.reduceEq, Int.reduceLT, Int.reduceLE, Int.reduceBEq, Int.reduceBNe, ne_eq, not_true_eq_false, not_false_eq_true, decide_true, decide_false, List.length_map, Try.ntmps21]
  refine branch_mk (fun hb => ?_) (fun hb => ?_)
  · simp -implicitDefEqProofs (disch := omega) only [go_sem, ↓reduceIte, Nat.reduceEqDiff, Nat.reduceMul, Nat.reduceAdd, Nat.reduceDiv, Nat.reduceBEq, Nat.reduceLeDiff, Int.reduceToNat, Int.reduceNe, Int.reduceEq, Int.reduceLT, Int.reduceLE, Int.reduceBEq, Int.reduceBNe, ne_eq, not_true_eq_false, not_false_eq_true, decide_true, decide_false, List.length_map, Try.results21]
    have : ¬ a = b := fun e => by subst e; omega
    simp [this]
  · simp -implicitDefEqProofs (disch := omega) only [go_sem, ↓reduceIte, Nat.reduceEqDiff, Nat.reduceMul, Nat.reduceAdd, Nat.reduceDiv, Nat.reduceBEq, Nat.reduceLeDiff, Int.reduceToNat, Int.reduceNe, Int.reduceEq, Int.reduceLT, Int.reduceLE, Int.reduceBEq, Int.reduceBNe, ne_eq, not_true_eq_false, not_false_eq_true, decide_true, decide_false, List.length_map]
    refine loopC_mk (fun n E σ => ∃ v : Nat, v + n = a.length ∧ E 0 = SL a ∧ E 1 = SL b ∧ E 5 = I v ∧ ∀ i, i < v → gd a i = gd b i) a.length ⟨0, by omega, ?_⟩ ?_
    · simp -implicitDefEqProofs (disch := omega) only [go_sem, ↓reduceIte, Nat.reduceEqDiff, Nat.reduceMul, Nat.reduceAdd, Nat.reduceDiv, Nat.reduceBEq, Nat.reduceLeDiff, Int.reduceToNat, Int.reduceNe, Int.reduceEq, Int.reduceLT, Int.reduceLE, Int.reduceBEq, Int.reduceBNe, ne_eq, not_true_eq_false, not_false_eq_true, decide_true, decide_false, List.length_map]
      simp
    · rintro n E σ ⟨v, hv, h0, h1, h5, hall⟩
      simp -implicitDefEqProofs (disch := omega) only [go_sem, ↓reduceIte, Nat.reduceEqDiff, Nat.reduceMul, Nat.reduceAdd, Nat.reduceDiv, Nat.reduceBEq, Nat.reduceLeDiff, Int.reduceToNat, Int.reduceNe, Int.reduceEq, Int.reduceLT, Int.reduceLE, Int.reduceBEq, Int.reduceBNe, ne_eq, not_true_eq_false, not_false_eq_true, decide_true, decide_false, List.length_map, h0, h1, h5]
      refine branch_mk (fun hc => ?_) (fun hc => ?_)
      · simp -implicitDefEqProofs (disch := omega) only [go_sem, ↓reduceIte, Nat.reduceEqDiff, Nat.reduceMul, Nat.reduceAdd, Nat.reduceDiv, Nat.reduceBEq, Nat.reduceLeDiff, Int.reduceToNat, Int.reduceNe, Int.reduceEq, Int.reduceLT, Int.reduceLE, Int.reduceBEq, Int.reduceBNe, ne_eq, not_true_eq_false, not_false_eq_true, decide_true, decide_false, List.length_map, h0, h1, h5]
        refine branch_mk (fun hd => ?_) (fun hd => ?_)
        · simp -implicitDefEqProofs (disch := omega) only [go_sem, ↓reduceIte, Nat.reduceEqDiff, Nat.reduceMul, Nat.reduceAdd, Nat.reduceDiv, Nat.reduceBEq, Nat.reduceLeDiff, Int.reduceToNat, Int.reduceNe, Int.reduceEq, Int.reduceLT, Int.reduceLE, Int.reduceBEq, Int.reduceBNe, ne_eq, not_true_eq_false, not_false_eq_true, decide_true, decide_false, List.length_map, Try.results21]
          have : ¬ a = b := fun e => hd (by subst e; rfl)
          simp [this]
        · simp -implicitDefEqProofs (disch := omega) only [go_sem, ↓reduceIte, Nat.reduceEqDiff, Nat.reduceMul, Nat.reduceAdd, Nat.reduceDiv, Nat.reduceBEq, Nat.reduceLeDiff, Int.reduceToNat, Int.reduceNe, Int.reduceEq, Int.reduceLT, Int.reduceLE, Int.reduceBEq, Int.reduceBNe, ne_eq, not_true_eq_false, not_false_eq_true, decide_true, decide_false, List.length_map, h0, h1, h5]
          refine againQ_mk (n - 1) (by omega) ⟨v + 1, by omega, ?_⟩
          simp -implicitDefEqProofs (disch := omega) only [go_sem, ↓reduceIte, Nat.reduceEqDiff, Nat.reduceMul, Nat.reduceAdd, Nat.reduceDiv, Nat.reduceBEq, Nat.reduceLeDiff, Int.reduceToNat, Int.reduceNe, Int.reduceEq, Int.reduceLT, Int.reduceLE, Int.reduceBEq, Int.reduceBNe, ne_eq, not_true_eq_false, not_false_eq_true, decide_true, decide_false, List.length_map, h0, h1, h5]
          refine ⟨by simp, fun i hi => ?_⟩
          by_cases e : i = v
          · subst e; omega
          · exact hall i (by omega)
      · simp -implicitDefEqProofs (disch := omega) only [go_sem, ↓reduceIte, Nat.reduceEqDiff, Nat.reduceMul, Nat.reduceAdd, Nat.reduceDiv, Nat.reduceBEq, Nat.reduceLeDiff, Int.reduceToNat, Int.reduceNe, Int.reduceEq, Int.reduceLT, Int.reduceLE, Int.reduceBEq, Int.reduceBNe, ne_eq, not_true_eq_false, not_false_eq_true, decide_true, decide_false, List.length_map, Try.results21]
        have : a = b := gd_ext (by omega) fun i hi => hall i (by omega)
        simp [this]

theorem known_ev (h : List Int) (lag : Int) (y : List Int) (h1 : 0 < h.length) (h2 : h.length < 1000000) (h3 : 0 ≤ lag) (h4 : lag < 1000000) (hy : y.length ≤ 9223372036854775807) (hyr : ∀ a ∈ y, R64 a) : Ev Try.prog 28 [SL h, I lag, SL y] (.new 3 1 ((knownF h lag y).map I)) := by
  refine ev_of Try.func28 rfl (by kernel_rfl) mo (Nat.le_of_ble_eq_true rfl) ?_
  simp -implicitDefEqProofs (disch := omega) only [go_sem, ↓reduceIte, Nat.reduceEqDiff, Nat.reduceMul, Nat.reduceAdd, Nat.reduceDiv, Nat.reduceBEq, Nat.reduceLeDiff, Int.reduceToNat, Int.reduceNe, Int.reduceEq, Int.reduceLT, Int.reduceLE, Int.reduceBEq, Int.reduceBNe, ne_eq, not_true_eq_false, not_false_eq_true, decide_true, decide_false, List.length_map, Try.ntmps28]
  refine loopC_mk (fun n E σ => ∃ c : Nat, c + n = 8 ∧ E 0 = SL h ∧ E 1 = I lag ∧ E 2 = SL y ∧ E 8 = I c ∧ E 7 = .own 60817520 1 0 c ∧ ∃ l, σ 60817520 = some ⟨3, 1, l.map I⟩ ∧ l.length = c ∧ ∀ i, i < c → gd l i = knownF1 h lag y i) 8 ⟨0, by omega, ?_⟩ ?_
  · simp -implicitDefEqProofs (disch := omega) only [go_sem, ↓reduceIte, Nat.reduceEqDiff, Nat.reduceMul, Nat.reduceAdd, Nat.reduceDiv, Nat.reduceBEq, Nat.reduceLeDiff, Int.reduceToNat, Int.reduceNe, Int.reduceEq, Int.reduceLT, Int.reduceLE, Int.reduceBEq, Int.reduceBNe, ne_eq, not_true_eq_false, not_false_eq_true, decide_true, decide_false, List.length_map]
    exact ⟨by simp, [], rfl, rfl, fun i hi => by omega⟩
  · rintro n E σ ⟨c, hc, h0, h1, h2, h8, h7, l, hs, hll, hl⟩
    simp -implicitDefEqProofs (disch := omega) only [go_sem, ↓reduceIte, Nat.reduceEqDiff, Nat.reduceMul, Nat.reduceAdd, Nat.reduceDiv, Nat.reduceBEq, Nat.reduceLeDiff, Int.reduceToNat, Int.reduceNe, Int.reduceEq, Int.reduceLT, Int.reduceLE, Int.reduceBEq, Int.reduceBNe, ne_eq, not_true_eq_false, not_false_eq_true, decide_true, decide_false, List.length_map, h0, h1, h2, h8]
    refine branch_mk (fun hd => ?_) (fun hd => ?_)
    · simp -implicitDefEqProofs (disch := omega) only [go_sem, ↓reduceIte, Nat.reduceEqDiff, Nat.reduceMul, Nat.reduceAdd, Nat.reduceDiv, Nat.reduceBEq, Nat.reduceLeDiff, Int.reduceToNat, Int.reduceNe, Int.reduceEq, Int.reduceLT, Int.reduceLE, Int.reduceBEq, Int.reduceBNe, ne_eq, not_true_eq_false, not_false_eq_true, decide_true, decide_false, List.length_map, h0, h1, h2, h8]
      refine callC_at (least_ev _ _ _ (by omega) (by omega) (by omega) (by omega)) ?_
      simp -implicitDefEqProofs (disch := omega) only [go_sem, ↓reduceIte, Nat.reduceEqDiff, Nat.reduceMul, Nat.reduceAdd, Nat.reduceDiv, Nat.reduceBEq, Nat.reduceLeDiff, Int.reduceToNat, Int.reduceNe, Int.reduceEq, Int.reduceLT, Int.reduceLE, Int.reduceBEq, Int.reduceBNe, ne_eq, not_true_eq_false, not_false_eq_true, decide_true, decide_false, List.length_map, h0, h1, h2, h8, h7]
      have hlt := leastF_lt (h := h) (by omega) lag c h3
      have hln := leastF_nonneg h lag c (h.length - 1)
      have hm : R64 (gd y c) := by
        by_cases hb : c < y.length
        · exact hyr _ (gd_mem y c hb)
        · rw [gd_none y c (by omega)]; exact ⟨by decide, by decide⟩
      have hp1 := pickF_in (c := (gd y c).tdiv 16) (n := h.length - leastF h lag c (h.length - 1)) (by omega)
      obtain ⟨hm1, hm2⟩ := hm
      have hgo : ∀ x, x = knownF1 h lag y c → ∀ i, i < c + 1 → gd (l ++ [x]) i = knownF1 h lag y i := fun x hx i hi => by
        by_cases e : i = c
        · subst e; rw [gd_append_right _ _ _ (by omega), hll, Nat.sub_self, gd_cons_zero, hx]
        · rw [gd_append_left _ _ _ (by omega), hl i (by omega)]
      refine branch_mk (fun hb => ?_) (fun hb => ?_)
      · simp -implicitDefEqProofs (disch := omega) only [go_sem, ↓reduceIte, Nat.reduceEqDiff, Nat.reduceMul, Nat.reduceAdd, Nat.reduceDiv, Nat.reduceBEq, Nat.reduceLeDiff, Int.reduceToNat, Int.reduceNe, Int.reduceEq, Int.reduceLT, Int.reduceLE, Int.reduceBEq, Int.reduceBNe, ne_eq, not_true_eq_false, not_false_eq_true, decide_true, decide_false, List.length_map, h0, h1, h2, h8, h7]
        refine callC_at (pick_ev _ _ (R64_tdiv (by omega) ⟨hm1, hm2⟩) (by omega)) ?_
        simp -implicitDefEqProofs (disch := omega) only [go_sem, ↓reduceIte, Nat.reduceEqDiff, Nat.reduceMul, Nat.reduceAdd, Nat.reduceDiv, Nat.reduceBEq, Nat.reduceLeDiff, Int.reduceToNat, Int.reduceNe, Int.reduceEq, Int.reduceLT, Int.reduceLE, Int.reduceBEq, Int.reduceBNe, ne_eq, not_true_eq_false, not_false_eq_true, decide_true, decide_false, List.length_map, h0, h1, h2, h8, h7]
        refine callC_at (pick_ev _ _ ⟨hm1, hm2⟩ (by omega)) ?_
        simp -implicitDefEqProofs (disch := omega) only [go_sem, ↓reduceIte, Nat.reduceEqDiff, Nat.reduceMul, Nat.reduceAdd, Nat.reduceDiv, Nat.reduceBEq, Nat.reduceLeDiff, Int.reduceToNat, Int.reduceNe, Int.reduceEq, Int.reduceLT, Int.reduceLE, Int.reduceBEq, Int.reduceBNe, ne_eq, not_true_eq_false, not_false_eq_true, decide_true, decide_false, List.length_map, h0, h1, h2, h8, h7]
        refine branch_mk (fun hb => ?_) (fun hb => ?_)
        · simp -implicitDefEqProofs (disch := omega) only [go_sem, ↓reduceIte, Nat.reduceEqDiff, Nat.reduceMul, Nat.reduceAdd, Nat.reduceDiv, Nat.reduceBEq, Nat.reduceLeDiff, Int.reduceToNat, Int.reduceNe, Int.reduceEq, Int.reduceLT, Int.reduceLE, Int.reduceBEq, Int.reduceBNe, ne_eq, not_true_eq_false, not_false_eq_true, decide_true, decide_false, List.length_map, h0, h1, h2, h8, h7, hs, hll]
          refine againQ_mk (n - 1) (by omega) ⟨c + 1, by omega, ?_⟩
          simp -implicitDefEqProofs (disch := omega) only [go_sem, ↓reduceIte, Nat.reduceEqDiff, Nat.reduceMul, Nat.reduceAdd, Nat.reduceDiv, Nat.reduceBEq, Nat.reduceLeDiff, Int.reduceToNat, Int.reduceNe, Int.reduceEq, Int.reduceLT, Int.reduceLE, Int.reduceBEq, Int.reduceBNe, ne_eq, not_true_eq_false, not_false_eq_true, decide_true, decide_false, List.length_map, h0, h1, h2, h8, h7, hs, hll]
          exact ⟨by simp, _, rfl, by simp [hll], hgo _ (by unfold knownF1; rw [if_pos (by omega)])⟩
        · simp -implicitDefEqProofs (disch := omega) only [go_sem, ↓reduceIte, Nat.reduceEqDiff, Nat.reduceMul, Nat.reduceAdd, Nat.reduceDiv, Nat.reduceBEq, Nat.reduceLeDiff, Int.reduceToNat, Int.reduceNe, Int.reduceEq, Int.reduceLT, Int.reduceLE, Int.reduceBEq, Int.reduceBNe, ne_eq, not_true_eq_false, not_false_eq_true, decide_true, decide_false, List.length_map, h0, h1, h2, h8, h7, hs, hll]
          refine againQ_mk (n - 1) (by omega) ⟨c + 1, by omega, ?_⟩
          simp -implicitDefEqProofs (disch := omega) only [go_sem, ↓reduceIte, Nat.reduceEqDiff, Nat.reduceMul, Nat.reduceAdd, Nat.reduceDiv, Nat.reduceBEq, Nat.reduceLeDiff, Int.reduceToNat, Int.reduceNe, Int.reduceEq, Int.reduceLT, Int.reduceLE, Int.reduceBEq, Int.reduceBNe, ne_eq, not_true_eq_false, not_false_eq_true, decide_true, decide_false, List.length_map, h0, h1, h2, h8, h7, hs, hll]
          exact ⟨by simp, _, rfl, by simp [hll], hgo _ (by unfold knownF1; rw [if_neg (by omega)])⟩
      · simp -implicitDefEqProofs (disch := omega) only [go_sem, ↓reduceIte, Nat.reduceEqDiff, Nat.reduceMul, Nat.reduceAdd, Nat.reduceDiv, Nat.reduceBEq, Nat.reduceLeDiff, Int.reduceToNat, Int.reduceNe, Int.reduceEq, Int.reduceLT, Int.reduceLE, Int.reduceBEq, Int.reduceBNe, ne_eq, not_true_eq_false, not_false_eq_true, decide_true, decide_false, List.length_map, h0, h1, h2, h8, h7]
        have hm0 : gd y c = 0 := gd_none y c (by omega)
        rw [hm0] at hp1 hm1 hm2
        refine callC_at (pick_ev _ _ (R64_tdiv (by omega) ⟨hm1, hm2⟩) (by omega)) ?_
        simp -implicitDefEqProofs (disch := omega) only [go_sem, ↓reduceIte, Nat.reduceEqDiff, Nat.reduceMul, Nat.reduceAdd, Nat.reduceDiv, Nat.reduceBEq, Nat.reduceLeDiff, Int.reduceToNat, Int.reduceNe, Int.reduceEq, Int.reduceLT, Int.reduceLE, Int.reduceBEq, Int.reduceBNe, ne_eq, not_true_eq_false, not_false_eq_true, decide_true, decide_false, List.length_map, h0, h1, h2, h8, h7]
        refine callC_at (pick_ev _ _ ⟨hm1, hm2⟩ (by omega)) ?_
        simp -implicitDefEqProofs (disch := omega) only [go_sem, ↓reduceIte, Nat.reduceEqDiff, Nat.reduceMul, Nat.reduceAdd, Nat.reduceDiv, Nat.reduceBEq, Nat.reduceLeDiff, Int.reduceToNat, Int.reduceNe, Int.reduceEq, Int.reduceLT, Int.reduceLE, Int.reduceBEq, Int.reduceBNe, ne_eq, not_true_eq_false, not_false_eq_true, decide_true, decide_false, List.length_map, h0, h1, h2, h8, h7]
        refine branch_mk (fun hb => ?_) (fun hb => ?_)
        · simp -implicitDefEqProofs (disch := omega) only [go_sem, ↓reduceIte, Nat.reduceEqDiff, Nat.reduceMul, Nat.reduceAdd, Nat.reduceDiv, Nat.reduceBEq, Nat.reduceLeDiff, Int.reduceToNat, Int.reduceNe, Int.reduceEq, Int.reduceLT, Int.reduceLE, Int.reduceBEq, Int.reduceBNe, ne_eq, not_true_eq_false, not_false_eq_true, decide_true, decide_false, List.length_map, h0, h1, h2, h8, h7, hs, hll]
          refine againQ_mk (n - 1) (by omega) ⟨c + 1, by omega, ?_⟩
          simp -implicitDefEqProofs (disch := omega) only [go_sem, ↓reduceIte, Nat.reduceEqDiff, Nat.reduceMul, Nat.reduceAdd, Nat.reduceDiv, Nat.reduceBEq, Nat.reduceLeDiff, Int.reduceToNat, Int.reduceNe, Int.reduceEq, Int.reduceLT, Int.reduceLE, Int.reduceBEq, Int.reduceBNe, ne_eq, not_true_eq_false, not_false_eq_true, decide_true, decide_false, List.length_map, h0, h1, h2, h8, h7, hs, hll]
          exact ⟨by simp, _, rfl, by simp [hll], hgo _ (by unfold knownF1; rw [hm0, if_pos (by omega)])⟩
        · simp -implicitDefEqProofs (disch := omega) only [go_sem, ↓reduceIte, Nat.reduceEqDiff, Nat.reduceMul, Nat.reduceAdd, Nat.reduceDiv, Nat.reduceBEq, Nat.reduceLeDiff, Int.reduceToNat, Int.reduceNe, Int.reduceEq, Int.reduceLT, Int.reduceLE, Int.reduceBEq, Int.reduceBNe, ne_eq, not_true_eq_false, not_false_eq_true, decide_true, decide_false, List.length_map, h0, h1, h2, h8, h7, hs, hll]
          refine againQ_mk (n - 1) (by omega) ⟨c + 1, by omega, ?_⟩
          simp -implicitDefEqProofs (disch := omega) only [go_sem, ↓reduceIte, Nat.reduceEqDiff, Nat.reduceMul, Nat.reduceAdd, Nat.reduceDiv, Nat.reduceBEq, Nat.reduceLeDiff, Int.reduceToNat, Int.reduceNe, Int.reduceEq, Int.reduceLT, Int.reduceLE, Int.reduceBEq, Int.reduceBNe, ne_eq, not_true_eq_false, not_false_eq_true, decide_true, decide_false, List.length_map, h0, h1, h2, h8, h7, hs, hll]
          exact ⟨by simp, _, rfl, by simp [hll], hgo _ (by unfold knownF1; rw [hm0, if_neg (by omega)])⟩
    · simp -implicitDefEqProofs (disch := omega) only [go_sem, ↓reduceIte, Nat.reduceEqDiff, Nat.reduceMul, Nat.reduceAdd, Nat.reduceDiv, Nat.reduceBEq, Nat.reduceLeDiff, Int.reduceToNat, Int.reduceNe, Int.reduceEq, Int.reduceLT, Int.reduceLE, Int.reduceBEq, Int.reduceBNe, ne_eq, not_true_eq_false, not_false_eq_true, decide_true, decide_false, List.length_map, h0, h1, h2, h8, h7, hs, Try.results28]
      rw [show knownF h lag y = l from gd_ext (by rw [knownF_length]; omega) fun i hi => by
        rw [knownF_length] at hi
        rw [knownF_at _ _ _ _ hi, hl i (by omega)]]
end Go.Proofs.Ytmiahmpobpokmaa

/- The contracts of chapter 24: what integers determine; equal lists. -/
set_option maxRecDepth 100000
set_option linter.unusedSimpArgs false
namespace Go.Proofs.Ytmiahmpobpokmaa
open Go.Vai Go Go.Proofs

theorem same_ev (a b : List (Int × Int)) (ha : a.length ≤ 9223372036854775807) (hb : b.length ≤ 9223372036854775807) : Ev Try.prog 20 [HL a, HL b] (B (decide (a = b))) := by
  refine ev_of Try.func20 rfl (by kernel_rfl) mo (Nat.le_of_ble_eq_true rfl) ?_
  simp -implicitDefEqProofs (disch := omega) only [go_sem, ↓reduceIte, Nat.reduceEqDiff, Nat.reduceMul, Nat.reduceAdd, Nat.reduceDiv, Nat.reduceBEq, Nat.reduceLeDiff, Int.reduceToNat, Int.reduceNe, Int.reduceEq, Int.reduceLT, Int.reduceLE, Int.reduceBEq, Int.reduceBNe, ne_eq, not_true_eq_false, not_false_eq_true, decide_true, decide_false, List.length_map, Try.ntmps20]
  refine branch_mk (fun hb => ?_) (fun hb => ?_)
  · simp -implicitDefEqProofs (disch := omega) only [go_sem, ↓reduceIte, Nat.reduceEqDiff, Nat.reduceMul, Nat.reduceAdd, Nat.reduceDiv, Nat.reduceBEq, Nat.reduceLeDiff, Int.reduceToNat, Int.reduceNe, Int.reduceEq, Int.reduceLT, Int.reduceLE, Int.reduceBEq, Int.reduceBNe, ne_eq, not_true_eq_false, not_false_eq_true, decide_true, decide_false, List.length_map, Try.results20]
    have : ¬ a = b := fun e => by subst e; omega
    simp [this]
  · simp -implicitDefEqProofs (disch := omega) only [go_sem, ↓reduceIte, Nat.reduceEqDiff, Nat.reduceMul, Nat.reduceAdd, Nat.reduceDiv, Nat.reduceBEq, Nat.reduceLeDiff, Int.reduceToNat, Int.reduceNe, Int.reduceEq, Int.reduceLT, Int.reduceLE, Int.reduceBEq, Int.reduceBNe, ne_eq, not_true_eq_false, not_false_eq_true, decide_true, decide_false, List.length_map]
    refine loopC_mk (fun n E σ => ∃ v : Nat, v + n = a.length ∧ E 0 = HL a ∧ E 1 = HL b ∧ E 5 = I v ∧ ∀ i, i < v → gd a i = gd b i) a.length ⟨0, by omega, ?_⟩ ?_
    · simp -implicitDefEqProofs (disch := omega) only [go_sem, ↓reduceIte, Nat.reduceEqDiff, Nat.reduceMul, Nat.reduceAdd, Nat.reduceDiv, Nat.reduceBEq, Nat.reduceLeDiff, Int.reduceToNat, Int.reduceNe, Int.reduceEq, Int.reduceLT, Int.reduceLE, Int.reduceBEq, Int.reduceBNe, ne_eq, not_true_eq_false, not_false_eq_true, decide_true, decide_false, List.length_map]
      simp
    · rintro n E σ ⟨v, hv, h0, h1, h5, hall⟩
      simp -implicitDefEqProofs (disch := omega) only [go_sem, ↓reduceIte, Nat.reduceEqDiff, Nat.reduceMul, Nat.reduceAdd, Nat.reduceDiv, Nat.reduceBEq, Nat.reduceLeDiff, Int.reduceToNat, Int.reduceNe, Int.reduceEq, Int.reduceLT, Int.reduceLE, Int.reduceBEq, Int.reduceBNe, ne_eq, not_true_eq_false, not_false_eq_true, decide_true, decide_false, List.length_map, h0, h1, h5]
      refine branch_mk (fun hc => ?_) (fun hc => ?_)
      · simp -implicitDefEqProofs (disch := omega) only [go_sem, ↓reduceIte, Nat.reduceEqDiff, Nat.reduceMul, Nat.reduceAdd, Nat.reduceDiv, Nat.reduceBEq, Nat.reduceLeDiff, Int.reduceToNat, Int.reduceNe, Int.reduceEq, Int.reduceLT, Int.reduceLE, Int.reduceBEq, Int.reduceBNe, ne_eq, not_true_eq_false, not_false_eq_true, decide_true, decide_false, List.length_map, h0, h1, h5]
        refine branch_mk (fun hd => ?_) (fun hd => ?_)
        · simp -implicitDefEqProofs (disch := omega) only [go_sem, ↓reduceIte, Nat.reduceEqDiff, Nat.reduceMul, Nat.reduceAdd, Nat.reduceDiv, Nat.reduceBEq, Nat.reduceLeDiff, Int.reduceToNat, Int.reduceNe, Int.reduceEq, Int.reduceLT, Int.reduceLE, Int.reduceBEq, Int.reduceBNe, ne_eq, not_true_eq_false, not_false_eq_true, decide_true, decide_false, List.length_map, Try.results20]
          have : ¬ a = b := fun e => by subst e; simp at hd
          simp [this]
        · simp -implicitDefEqProofs (disch := omega) only [go_sem, ↓reduceIte, Nat.reduceEqDiff, Nat.reduceMul, Nat.reduceAdd, Nat.reduceDiv, Nat.reduceBEq, Nat.reduceLeDiff, Int.reduceToNat, Int.reduceNe, Int.reduceEq, Int.reduceLT, Int.reduceLE, Int.reduceBEq, Int.reduceBNe, ne_eq, not_true_eq_false, not_false_eq_true, decide_true, decide_false, List.length_map, h0, h1, h5]
          refine againQ_mk (n - 1) (by omega) ⟨v + 1, by omega, ?_⟩
          simp -implicitDefEqProofs (disch := omega) only [go_sem, ↓reduceIte, Nat.reduceEqDiff, Nat.reduceMul, Nat.reduceAdd, Nat.reduceDiv, Nat.reduceBEq, Nat.reduceLeDiff, Int.reduceToNat, Int.reduceNe, Int.reduceEq, Int.reduceLT, Int.reduceLE, Int.reduceBEq, Int.reduceBNe, ne_eq, not_true_eq_false, not_false_eq_true, decide_true, decide_false, List.length_map, h0, h1, h5]
          refine ⟨by simp, fun i hi => ?_⟩
          by_cases e : i = v
          · subst e
            simp at hd
            exact Prod.ext hd.1 hd.2
          · exact hall i (by omega)
      · simp -implicitDefEqProofs (disch := omega) only [go_sem, ↓reduceIte, Nat.reduceEqDiff, Nat.reduceMul, Nat.reduceAdd, Nat.reduceDiv, Nat.reduceBEq, Nat.reduceLeDiff, Int.reduceToNat, Int.reduceNe, Int.reduceEq, Int.reduceLT, Int.reduceLE, Int.reduceBEq, Int.reduceBNe, ne_eq, not_true_eq_false, not_false_eq_true, decide_true, decide_false, List.length_map, Try.results20]
        have : a = b := gd_ext (by omega) fun i hi => hall i (by omega)
        simp [this]

theorem clone_ev (l : List Int) (h0 : 0 < l.length) (hl : l.length ≤ 1000000) : Ev Try.prog 40 [SL l] (.new 3 1 (l.map I)) := by
  refine ev_of Try.func40 rfl (by kernel_rfl) mo (Nat.le_of_ble_eq_true rfl) ?_
  simp -implicitDefEqProofs (disch := omega) only [go_sem, ↓reduceIte, Nat.reduceEqDiff, Nat.reduceMul, Nat.reduceAdd, Nat.reduceDiv, Nat.reduceBEq, Nat.reduceLeDiff, Int.reduceToNat, Int.reduceNe, Int.reduceEq, Int.reduceLT, Int.reduceLE, Int.reduceBEq, Int.reduceBNe, ne_eq, not_true_eq_false, not_false_eq_true, decide_true, decide_false, List.length_map, Try.ntmps40, Try.results40]

theorem made_ev (x y : List Int) (lag : Int) (hx : x.length ≤ 9223372036854775807) (hy : y.length ≤ 9223372036854775807) (hxr : ∀ a ∈ x, R64 a) (hyr : ∀ a ∈ y, R64 a) (hl : R64 lag) :
    Ev Try.prog 12 [SL x, SL y, I lag] (.tup [.new 3 1 ((madeH x).map I), .new 3 1 ((knownF (madeH x) (madeL lag) y).map I), I (madeL lag)]) := by
  refine ev_of Try.func12 rfl (by kernel_rfl) mo (Nat.le_of_ble_eq_true rfl) ?_
  simp -implicitDefEqProofs (disch := omega) only [go_sem, ↓reduceIte, Nat.reduceEqDiff, Nat.reduceMul, Nat.reduceAdd, Nat.reduceDiv, Nat.reduceBEq, Nat.reduceLeDiff, Int.reduceToNat, Int.reduceNe, Int.reduceEq, Int.reduceLT, Int.reduceLE, Int.reduceBEq, Int.reduceBNe, ne_eq, not_true_eq_false, not_false_eq_true, decide_true, decide_false, List.length_map, Try.ntmps12]
  have hloop : ∀ (B : (Exit → Env → Store → Prop) → Env → Store → Prop) (Q : Exit → Env → Store → Prop) (E : Env) (σ : Store) (l : List Int), l.length = 1 → E 0 = SL x → E 1 = SL y → E 2 = I lag → E 9 = .own 27263152 1 0 1 → E 10 = I 1 → σ 27263152 = some ⟨3, 1, l.map I⟩ → (x = [] → l = [0]) → (x ≠ [] → gd l 0 = pickF (gd x 0) 9 - 1) →
      (∀ n E σ, (∃ (v : Nat) (l : List Int), 1 ≤ v ∧ v + n = 12 ∧ E 0 = SL x ∧ E 1 = SL y ∧ E 2 = I lag ∧ E 9 = .own 27263152 1 0 v ∧ E 10 = I v ∧ σ 27263152 = some ⟨3, 1, l.map I⟩ ∧ l.length = v ∧ (x = [] → l = [0] ∧ v = 1) ∧ (x ≠ [] → v ≤ x.length ∧ ∀ i, i < v → gd l i = pickF (gd x i) 9 - 1)) → B (thenQ (againQ (fun n E σ => ∃ (v : Nat) (l : List Int), 1 ≤ v ∧ v + n = 12 ∧ E 0 = SL x ∧ E 1 = SL y ∧ E 2 = I lag ∧ E 9 = .own 27263152 1 0 v ∧ E 10 = I v ∧ σ 27263152 = some ⟨3, 1, l.map I⟩ ∧ l.length = v ∧ (x = [] → l = [0] ∧ v = 1) ∧ (x ≠ [] → v ≤ x.length ∧ ∀ i, i < v → gd l i = pickF (gd x i) 9 - 1)) n) Q) E σ) → loopC B Q E σ := by
    intro B Q E σ l h1 h2 h3 h4 h5 h6 h7 h8 h9 hB
    refine loopC_mk _ 11 ⟨1, l, by omega, by omega, h2, h3, h4, h5, h6, h7, h1, fun e => ⟨h8 e, rfl⟩, fun e => ⟨?_, fun i hi => ?_⟩⟩ hB
    · cases x with | nil => exact absurd rfl e | cons => simp
    · rw [show i = 0 from by omega]; exact h9 e
  have hend : ∀ (v : Nat) (l : List Int), 1 ≤ v → v ≤ 12 → l.length = v → (x = [] → l = [0] ∧ v = 1) → (x ≠ [] → v ≤ x.length ∧ ∀ i, i < v → gd l i = pickF (gd x i) 9 - 1) → (x.length ≤ v ∨ 12 ≤ v) → l = madeH x := by
    intro v l h1 h2 h3 h4 h5 h6
    unfold madeH
    split
    · rename_i e; exact (h4 e).1
    · rename_i e
      obtain ⟨h7, h8⟩ := h5 e
      refine gd_ext (by simp; omega) fun i hi => ?_
      rw [h8 i (by omega)]
      have : (List.map (fun a => pickF a 9 - 1) (List.take 12 x))[i]? = some (pickF (gd x i) 9 - 1) := by
        rw [List.getElem?_map, List.getElem?_take_of_lt (by omega), gd_some x i (by omega)]; rfl
      unfold gd; rw [List.getD_eq_getElem?_getD, List.getD_eq_getElem?_getD, this]
      rfl
  refine branch_mk (fun hb => ?_) (fun hb => ?_)
  have hp := pickF_in (c := gd x 0) (n := 9) (by omega)
  simp -implicitDefEqProofs (disch := omega) only [go_sem, ↓reduceIte, Nat.reduceEqDiff, Nat.reduceMul, Nat.reduceAdd, Nat.reduceDiv, Nat.reduceBEq, Nat.reduceLeDiff, Int.reduceToNat, Int.reduceNe, Int.reduceEq, Int.reduceLT, Int.reduceLE, Int.reduceBEq, Int.reduceBNe, ne_eq, not_true_eq_false, not_false_eq_true, decide_true, decide_false, List.length_map]
  refine callC_at (pick_ev _ _ (hxr _ (gd_mem x 0 (by omega))) (by omega)) ?_
  simp -implicitDefEqProofs (disch := omega) only [go_sem, ↓reduceIte, Nat.reduceEqDiff, Nat.reduceMul, Nat.reduceAdd, Nat.reduceDiv, Nat.reduceBEq, Nat.reduceLeDiff, Int.reduceToNat, Int.reduceNe, Int.reduceEq, Int.reduceLT, Int.reduceLE, Int.reduceBEq, Int.reduceBNe, ne_eq, not_true_eq_false, not_false_eq_true, decide_true, decide_false, List.length_map]
  refine hloop _ _ _ _ [pickF (gd x 0) 9 - 1] rfl (by simp -implicitDefEqProofs (disch := omega) only [go_sem, ↓reduceIte, Nat.reduceEqDiff, Nat.reduceMul, Nat.reduceAdd, Nat.reduceDiv, Nat.reduceBEq, Nat.reduceLeDiff, Int.reduceToNat, Int.reduceNe, Int.reduceEq, Int.reduceLT, Int.reduceLE, Int.reduceBEq, Int.reduceBNe, ne_eq, not_true_eq_false, not_false_eq_true, decide_true, decide_false, List.length_map]) (by simp -implicitDefEqProofs (disch := omega) only [go_sem, ↓reduceIte, Nat.reduceEqDiff, Nat.reduceMul, Nat.reduceAdd, Nat.reduceDiv, Nat.reduceBEq, Nat.reduceLeDiff, Int.reduceToNat, Int.reduceNe, Int.reduceEq, Int.reduceLT, Int.reduceLE, Int.reduceBEq, Int.reduceBNe, ne_eq, not_true_eq_false, not_false_eq_true, decide_true, decide_false, List.length_map]) (by simp -implicitDefEqProofs (disch := omega) only [go_sem, ↓reduceIte, Nat.reduceEqDiff, Nat.reduceMul, Nat.reduceAdd, Nat.reduceDiv, Nat.reduceBEq, Nat.reduceLeDiff, Int.reduceToNat, Int.reduceNe, Int.reduceEq, Int.reduceLT, Int.reduceLE, Int.reduceBEq, Int.reduceBNe, ne_eq, not_true_eq_false, not_false_eq_true, decide_true, decide_false, List.length_map]) (by simp -implicitDefEqProofs (disch := omega) only [go_sem, ↓reduceIte, Nat.reduceEqDiff, Nat.reduceMul, Nat.reduceAdd, Nat.reduceDiv, Nat.reduceBEq, Nat.reduceLeDiff, Int.reduceToNat, Int.reduceNe, Int.reduceEq, Int.reduceLT, Int.reduceLE, Int.reduceBEq, Int.reduceBNe, ne_eq, not_true_eq_false, not_false_eq_true, decide_true, decide_false, List.length_map]) (by simp -implicitDefEqProofs (disch := omega) only [go_sem, ↓reduceIte, Nat.reduceEqDiff, Nat.reduceMul, Nat.reduceAdd, Nat.reduceDiv, Nat.reduceBEq, Nat.reduceLeDiff, Int.reduceToNat, Int.reduceNe, Int.reduceEq, Int.reduceLT, Int.reduceLE, Int.reduceBEq, Int.reduceBNe, ne_eq, not_true_eq_false, not_false_eq_true, decide_true, decide_false, List.length_map]) (by simp -implicitDefEqProofs (disch := omega) only [go_sem, ↓reduceIte, Nat.reduceEqDiff, Nat.reduceMul, Nat.reduceAdd, Nat.reduceDiv, Nat.reduceBEq, Nat.reduceLeDiff, Int.reduceToNat, Int.reduceNe, Int.reduceEq, Int.reduceLT, Int.reduceLE, Int.reduceBEq, Int.reduceBNe, ne_eq, not_true_eq_false, not_false_eq_true, decide_true, decide_false, List.length_map]) (fun e => by subst e; simp at hb) (fun e => rfl) ?_
  rotate_left
  simp -implicitDefEqProofs (disch := omega) only [go_sem, ↓reduceIte, Nat.reduceEqDiff, Nat.reduceMul, Nat.reduceAdd, Nat.reduceDiv, Nat.reduceBEq, Nat.reduceLeDiff, Int.reduceToNat, Int.reduceNe, Int.reduceEq, Int.reduceLT, Int.reduceLE, Int.reduceBEq, Int.reduceBNe, ne_eq, not_true_eq_false, not_false_eq_true, decide_true, decide_false, List.length_map]
  refine hloop _ _ _ _ [0] rfl (by simp -implicitDefEqProofs (disch := omega) only [go_sem, ↓reduceIte, Nat.reduceEqDiff, Nat.reduceMul, Nat.reduceAdd, Nat.reduceDiv, Nat.reduceBEq, Nat.reduceLeDiff, Int.reduceToNat, Int.reduceNe, Int.reduceEq, Int.reduceLT, Int.reduceLE, Int.reduceBEq, Int.reduceBNe, ne_eq, not_true_eq_false, not_false_eq_true, decide_true, decide_false, List.length_map]) (by simp -implicitDefEqProofs (disch := omega) only [go_sem, ↓reduceIte, Nat.reduceEqDiff, Nat.reduceMul, Nat.reduceAdd, Nat.reduceDiv, Nat.reduceBEq, Nat.reduceLeDiff, Int.reduceToNat, Int.reduceNe, Int.reduceEq, Int.reduceLT, Int.reduceLE, Int.reduceBEq, Int.reduceBNe, ne_eq, not_true_eq_false, not_false_eq_true, decide_true, decide_false, List.length_map]) (by simp -implicitDefEqProofs (disch := omega) only [go_sem, ↓reduceIte, Nat.reduceEqDiff, Nat.reduceMul, Nat.reduceAdd, Nat.reduceDiv, Nat.reduceBEq, Nat.reduceLeDiff, Int.reduceToNat, Int.reduceNe, Int.reduceEq, Int.reduceLT, Int.reduceLE, Int.reduceBEq, Int.reduceBNe, ne_eq, not_true_eq_false, not_false_eq_true, decide_true, decide_false, List.length_map]) (by simp -implicitDefEqProofs (disch := omega) only [go_sem, ↓reduceIte, Nat.reduceEqDiff, Nat.reduceMul, Nat.reduceAdd, Nat.reduceDiv, Nat.reduceBEq, Nat.reduceLeDiff, Int.reduceToNat, Int.reduceNe, Int.reduceEq, Int.reduceLT, Int.reduceLE, Int.reduceBEq, Int.reduceBNe, ne_eq, not_true_eq_false, not_false_eq_true, decide_true, decide_false, List.length_map]) (by simp -implicitDefEqProofs (disch := omega) only [go_sem, ↓reduceIte, Nat.reduceEqDiff, Nat.reduceMul, Nat.reduceAdd, Nat.reduceDiv, Nat.reduceBEq, Nat.reduceLeDiff, Int.reduceToNat, Int.reduceNe, Int.reduceEq, Int.reduceLT, Int.reduceLE, Int.reduceBEq, Int.reduceBNe, ne_eq, not_true_eq_false, not_false_eq_true, decide_true, decide_false, List.length_map]) (by simp -implicitDefEqProofs (disch := omega) only [go_sem, ↓reduceIte, Nat.reduceEqDiff, Nat.reduceMul, Nat.reduceAdd, Nat.reduceDiv, Nat.reduceBEq, Nat.reduceLeDiff, Int.reduceToNat, Int.reduceNe, Int.reduceEq, Int.reduceLT, Int.reduceLE, Int.reduceBEq, Int.reduceBNe, ne_eq, not_true_eq_false, not_false_eq_true, decide_true, decide_false, List.length_map]) (fun e => rfl) (fun e => absurd (List.length_eq_zero_iff.1 (by omega)) e) ?_
  all_goals
    clear hb hloop
    rintro n E σ ⟨v, l, hv1, hv, h0, h1, h2, h9, h10, hs, hll, he1, he2⟩
    have hp : ∀ i, 0 ≤ pickF (gd x i) 9 ∧ pickF (gd x i) 9 < 9 := fun i => pickF_in (by omega)
    have hpv := hp v
    have hfin : (x.length ≤ v ∨ 12 ≤ v) → l = madeH x := hend v l hv1 (by omega) hll he1 he2
    have hml := madeL_in lag
    have hmh := madeH_holders x
    simp -implicitDefEqProofs (disch := omega) only [go_sem, ↓reduceIte, Nat.reduceEqDiff, Nat.reduceMul, Nat.reduceAdd, Nat.reduceDiv, Nat.reduceBEq, Nat.reduceLeDiff, Int.reduceToNat, Int.reduceNe, Int.reduceEq, Int.reduceLT, Int.reduceLE, Int.reduceBEq, Int.reduceBNe, ne_eq, not_true_eq_false, not_false_eq_true, decide_true, decide_false, List.length_map, h0, h1, h2, h9, h10]
    repeat' (first | ((with_reducible refine branch_mk (fun hb => ?_) (fun hb => ?_)) <;> simp -implicitDefEqProofs (disch := omega) only [go_sem, ↓reduceIte, Nat.reduceEqDiff, Nat.reduceMul, Nat.reduceAdd, Nat.reduceDiv, Nat.reduceBEq, Nat.reduceLeDiff, Int.reduceToNat, Int.reduceNe, Int.reduceEq, Int.reduceLT, Int.reduceLE, Int.reduceBEq, Int.reduceBNe, ne_eq, not_true_eq_false, not_false_eq_true, decide_true, decide_false, List.length_map, h0, h1, h2, h9, h10, hb]))
    · refine callC_at (pick_ev _ _ (hxr _ (gd_mem x v (by omega))) (by omega)) ?_
      simp -implicitDefEqProofs (disch := omega) only [go_sem, ↓reduceIte, Nat.reduceEqDiff, Nat.reduceMul, Nat.reduceAdd, Nat.reduceDiv, Nat.reduceBEq, Nat.reduceLeDiff, Int.reduceToNat, Int.reduceNe, Int.reduceEq, Int.reduceLT, Int.reduceLE, Int.reduceBEq, Int.reduceBNe, ne_eq, not_true_eq_false, not_false_eq_true, decide_true, decide_false, List.length_map, h0, h1, h2, h9, h10, hs, hll]
      refine againQ_mk (n - 1) (by omega) ⟨v + 1, l ++ [pickF (gd x v) 9 - 1], by omega, by omega, ?_⟩
      simp -implicitDefEqProofs (disch := omega) only [go_sem, ↓reduceIte, Nat.reduceEqDiff, Nat.reduceMul, Nat.reduceAdd, Nat.reduceDiv, Nat.reduceBEq, Nat.reduceLeDiff, Int.reduceToNat, Int.reduceNe, Int.reduceEq, Int.reduceLT, Int.reduceLE, Int.reduceBEq, Int.reduceBNe, ne_eq, not_true_eq_false, not_false_eq_true, decide_true, decide_false, List.length_map, h0, h1, h2, h9, h10, hs, hll]
      have hne : x ≠ [] := fun e => by subst e; simp at *; omega
      refine ⟨by simp, fun e => absurd e hne, fun _ => ⟨by omega, fun i hi => ?_⟩⟩
      by_cases e : i = v
      · subst e; rw [gd_append_right _ _ _ (by omega), hll, Nat.sub_self, gd_cons_zero]
      · rw [gd_append_left _ _ _ (by omega)]; exact (he2 hne).2 i (by omega)
    all_goals
      have hl' := hfin (by omega)
      subst hl'
      refine callC_at (pick_ev _ _ hl (by omega)) ?_
      simp -implicitDefEqProofs (disch := omega) only [go_sem, ↓reduceIte, Nat.reduceEqDiff, Nat.reduceMul, Nat.reduceAdd, Nat.reduceDiv, Nat.reduceBEq, Nat.reduceLeDiff, Int.reduceToNat, Int.reduceNe, Int.reduceEq, Int.reduceLT, Int.reduceLE, Int.reduceBEq, Int.reduceBNe, ne_eq, not_true_eq_false, not_false_eq_true, decide_true, decide_false, List.length_map, h0, h1, h2, h9, h10, hs, hll]
      refine callC_at (known_ev (madeH x) (madeL lag) y (by omega) (by omega) (by omega) (by omega) hy hyr) ?_ (h1 := .inr (flatL_ints _))
      simp -implicitDefEqProofs (disch := omega) only [go_sem, ↓reduceIte, Nat.reduceEqDiff, Nat.reduceMul, Nat.reduceAdd, Nat.reduceDiv, Nat.reduceBEq, Nat.reduceLeDiff, Int.reduceToNat, Int.reduceNe, Int.reduceEq, Int.reduceLT, Int.reduceLE, Int.reduceBEq, Int.reduceBNe, ne_eq, not_true_eq_false, not_false_eq_true, decide_true, decide_false, List.length_map, h0, h1, h2, h9, h10, hs, hll, Try.results12]
      rfl
end Go.Proofs.Ytmiahmpobpokmaa

/- The contracts of chapter 24: paths, by the reference. -/
set_option maxRecDepth 100000
set_option linter.unusedSimpArgs false
namespace Go.Proofs.Ytmiahmpobpokmaa
open Go.Vai Go Go.Proofs

@[go_sem] theorem append_hp (l : List (Int × Int)) (a b : Int) : l.map HP ++ [.agg [.v (.int .i64 a), .v (.int .i64 b)]] = (l ++ [(a, b)]).map HP := by simp
@[go_sem] theorem flatL_hps (l : List (Int × Int)) : AV.flatL (l.map HP) = true := flatL_map l HP fun _ => rfl
@[go_sem] theorem namesL_hps (p : Nat → Bool) (l : List (Int × Int)) : AV.namesL p (l.map HP) = false := namesL_map p l HP fun _ => rfl
@[go_sem] theorem allOK_hps (l : List (Int × Int)) : allOK 2 (l.map HP) = true := allOK_map 2 l HP fun _ => ⟨rfl, rfl⟩

theorem at_decide {h k : List Int} {lag c u : Int} (hv : validF h k lag = true) (ha : AtF h k c u) :
    (0 ≤ c ∧ c < k.length) ∧ (0 ≤ max (gd k c.toNat) u ∧ max (gd k c.toNat) u < h.length) ∧ (-1 ≤ gd h (max (gd k c.toNat) u).toNat ∧ gd h (max (gd k c.toNat) u).toNat < k.length) := by
  obtain ⟨h1, h2, h3, h4, h5, h6⟩ := ha
  obtain ⟨g1, g2, g3, g4, g5, g6⟩ := valid_holders hv
  have hk := valid_known' hv c.toNat (by omega)
  have hw := holders_at g1 (max (gd k c.toNat) u).toNat (by omega)
  omega

theorem pathR_ev (h k : List Int) (lag c : Int) (hh : h.length ≤ 9223372036854775807) (hk : k.length ≤ 9223372036854775807) (hl : R64 lag) : Ev Try.prog 17 [SL h, SL k, I lag, I c] (pathR h k lag c) := by
  refine ev_of Try.func17 rfl (by kernel_rfl) mo (Nat.le_of_ble_eq_true rfl) ?_
  simp -implicitDefEqProofs (disch := omega) only [go_sem, ↓reduceIte, Nat.reduceEqDiff, Nat.reduceMul, Nat.reduceAdd, Nat.reduceDiv, Nat.reduceBEq, Nat.reduceLeDiff, Int.reduceToNat, Int.reduceNe, Int.reduceEq, Int.reduceLT, Int.reduceLE, Int.reduceBEq, Int.reduceBNe, ne_eq, not_true_eq_false, not_false_eq_true, decide_true, decide_false, List.length_map, Try.ntmps17]
  refine callC_at (validR_ev h k lag hh hk hl) ?_
  simp -implicitDefEqProofs (disch := omega) only [go_sem, ↓reduceIte, Nat.reduceEqDiff, Nat.reduceMul, Nat.reduceAdd, Nat.reduceDiv, Nat.reduceBEq, Nat.reduceLeDiff, Int.reduceToNat, Int.reduceNe, Int.reduceEq, Int.reduceLT, Int.reduceLE, Int.reduceBEq, Int.reduceBNe, ne_eq, not_true_eq_false, not_false_eq_true, decide_true, decide_false, List.length_map]
  refine branch_mk (fun hb => ?_) (fun hb => ?_)
  · simp -implicitDefEqProofs (disch := omega) only [go_sem, ↓reduceIte, Nat.reduceEqDiff, Nat.reduceMul, Nat.reduceAdd, Nat.reduceDiv, Nat.reduceBEq, Nat.reduceLeDiff, Int.reduceToNat, Int.reduceNe, Int.reduceEq, Int.reduceLT, Int.reduceLE, Int.reduceBEq, Int.reduceBNe, ne_eq, not_true_eq_false, not_false_eq_true, decide_true, decide_false, List.length_map, Try.results17]
    simp [pathR, canF, hb]
  · simp -implicitDefEqProofs (disch := omega) only [go_sem, ↓reduceIte, Nat.reduceEqDiff, Nat.reduceMul, Nat.reduceAdd, Nat.reduceDiv, Nat.reduceBEq, Nat.reduceLeDiff, Int.reduceToNat, Int.reduceNe, Int.reduceEq, Int.reduceLT, Int.reduceLE, Int.reduceBEq, Int.reduceBNe, ne_eq, not_true_eq_false, not_false_eq_true, decide_true, decide_false, List.length_map]
    have hv : validF h k lag = true := by simpa using hb
    obtain ⟨g1, g2, g3, g4, g5, g6⟩ := valid_holders hv
    refine callC_at (up_ev k c g2) ?_
    simp -implicitDefEqProofs (disch := omega) only [go_sem, ↓reduceIte, Nat.reduceEqDiff, Nat.reduceMul, Nat.reduceAdd, Nat.reduceDiv, Nat.reduceBEq, Nat.reduceLeDiff, Int.reduceToNat, Int.reduceNe, Int.reduceEq, Int.reduceLT, Int.reduceLE, Int.reduceBEq, Int.reduceBNe, ne_eq, not_true_eq_false, not_false_eq_true, decide_true, decide_false, List.length_map]
    refine branch_mk (fun hc => ?_) (fun hc => ?_)
    · simp -implicitDefEqProofs (disch := omega) only [go_sem, ↓reduceIte, Nat.reduceEqDiff, Nat.reduceMul, Nat.reduceAdd, Nat.reduceDiv, Nat.reduceBEq, Nat.reduceLeDiff, Int.reduceToNat, Int.reduceNe, Int.reduceEq, Int.reduceLT, Int.reduceLE, Int.reduceBEq, Int.reduceBNe, ne_eq, not_true_eq_false, not_false_eq_true, decide_true, decide_false, List.length_map, Try.results17]
      have : ¬ canF h k lag c = true := by
        intro h1
        simp only [canF, hv, Bool.true_and] at h1
        rw [h1] at hc; cases hc
      rw [pathR, if_neg this]
    · simp -implicitDefEqProofs (disch := omega) only [go_sem, ↓reduceIte, Nat.reduceEqDiff, Nat.reduceMul, Nat.reduceAdd, Nat.reduceDiv, Nat.reduceBEq, Nat.reduceLeDiff, Int.reduceToNat, Int.reduceNe, Int.reduceEq, Int.reduceLT, Int.reduceLE, Int.reduceBEq, Int.reduceBNe, ne_eq, not_true_eq_false, not_false_eq_true, decide_true, decide_false, List.length_map]
      have hcan : canF h k lag c = true := by
        simp only [canF, hv, Bool.true_and]
        simpa [and_assoc] using hc
      have hat : AtF h k c (-1) := by
        simp only [canF, Bool.and_eq_true, decide_eq_true_eq] at hcan
        exact ⟨by omega, by omega, by omega, by omega, by omega, .inl rfl⟩
      rw [pathR, if_pos hcan]
      clear hc hb hcan
      generalize hr : pathF h k c = res
      refine loopC_mk (fun n E σ => ∃ (c u : Int) (l : List (Int × Int)), AtF h k c u ∧ (h.length : Int) - u ≤ n ∧ l.length + n = h.length + 1 ∧ res = (l ++ (walkF h k n c u).1, (walkF h k n c u).2) ∧
        E 0 = SL h ∧ E 1 = SL k ∧ E 3 = I c ∧ E 12 = I u ∧ E 11 = .own 37748912 2 0 l.length ∧ σ 37748912 = some ⟨40, 2, l.map HP⟩) (h.length + 1) ⟨c, -1, [], hat, by omega, by simp, by rw [← hr]; rfl, ?_⟩ ?_
      · simp -implicitDefEqProofs (disch := omega) only [go_sem, ↓reduceIte, Nat.reduceEqDiff, Nat.reduceMul, Nat.reduceAdd, Nat.reduceDiv, Nat.reduceBEq, Nat.reduceLeDiff, Int.reduceToNat, Int.reduceNe, Int.reduceEq, Int.reduceLT, Int.reduceLE, Int.reduceBEq, Int.reduceBNe, ne_eq, not_true_eq_false, not_false_eq_true, decide_true, decide_false, List.length_map]
      · clear hat hr c
        rintro n E σ ⟨c, u, l, hat, hn, hln, hres, h0, h1, h3, h12, h11, hs⟩
        simp -implicitDefEqProofs (disch := omega) only [go_sem, ↓reduceIte, Nat.reduceEqDiff, Nat.reduceMul, Nat.reduceAdd, Nat.reduceDiv, Nat.reduceBEq, Nat.reduceLeDiff, Int.reduceToNat, Int.reduceNe, Int.reduceEq, Int.reduceLT, Int.reduceLE, Int.reduceBEq, Int.reduceBNe, ne_eq, not_true_eq_false, not_false_eq_true, decide_true, decide_false, List.length_map, h0, h1, h3, h12, h11]
        obtain ⟨d1, d2, d3⟩ := at_decide hv hat
        obtain ⟨s1, s2, s3, s4, s5⟩ := at_step hv hat
        obtain ⟨m, rfl⟩ : ∃ m, n = m + 1 := ⟨n - 1, by have := hat.2.2.2.2.1; omega⟩
        refine callC_at (decideR_ev h k c u d1 d2 d3) ?_
        simp -implicitDefEqProofs (disch := omega) only [go_sem, ↓reduceIte, Nat.reduceEqDiff, Nat.reduceMul, Nat.reduceAdd, Nat.reduceDiv, Nat.reduceBEq, Nat.reduceLeDiff, Int.reduceToNat, Int.reduceNe, Int.reduceEq, Int.reduceLT, Int.reduceLE, Int.reduceBEq, Int.reduceBNe, ne_eq, not_true_eq_false, not_false_eq_true, decide_true, decide_false, List.length_map, T3, h0, h1, h3, h12, h11, hs]
        refine branch_mk (fun he => ?_) (fun he => ?_)
        · simp -implicitDefEqProofs (disch := omega) only [go_sem, ↓reduceIte, Nat.reduceEqDiff, Nat.reduceMul, Nat.reduceAdd, Nat.reduceDiv, Nat.reduceBEq, Nat.reduceLeDiff, Int.reduceToNat, Int.reduceNe, Int.reduceEq, Int.reduceLT, Int.reduceLE, Int.reduceBEq, Int.reduceBNe, ne_eq, not_true_eq_false, not_false_eq_true, decide_true, decide_false, List.length_map, T3, h0, h1, h3, h12, h11, hs, Try.results17]
          have e : walkF h k (m + 1) c u = ([(c, (decideF h k c u).1)], (decideF h k c u).2.2) := by
            rw [walkF, if_neg he]
          rw [hres, e]
        · simp -implicitDefEqProofs (disch := omega) only [go_sem, ↓reduceIte, Nat.reduceEqDiff, Nat.reduceMul, Nat.reduceAdd, Nat.reduceDiv, Nat.reduceBEq, Nat.reduceLeDiff, Int.reduceToNat, Int.reduceNe, Int.reduceEq, Int.reduceLT, Int.reduceLE, Int.reduceBEq, Int.reduceBNe, ne_eq, not_true_eq_false, not_false_eq_true, decide_true, decide_false, List.length_map, T3, h0, h1, h3, h12, h11, hs]
          have he0 : (decideF h k c u).2.2 = 0 := by omega
          have e : walkF h k (m + 1) c u = ((c, (decideF h k c u).1) :: (walkF h k m (decideF h k c u).2.1 (decideF h k c u).1).1, (walkF h k m (decideF h k c u).2.1 (decideF h k c u).1).2) := by
            rw [walkF, if_pos he0]
          rcases s5 with ⟨_, s6, s7, s8⟩ | ⟨_, s6⟩
          · refine againQ_mk m (by omega) ⟨_, _, l ++ [(c, (decideF h k c u).1)], s8, by omega, by simp; omega, by rw [hres, e]; simp, ?_⟩
            simp -implicitDefEqProofs (disch := omega) only [go_sem, ↓reduceIte, Nat.reduceEqDiff, Nat.reduceMul, Nat.reduceAdd, Nat.reduceDiv, Nat.reduceBEq, Nat.reduceLeDiff, Int.reduceToNat, Int.reduceNe, Int.reduceEq, Int.reduceLT, Int.reduceLE, Int.reduceBEq, Int.reduceBNe, ne_eq, not_true_eq_false, not_false_eq_true, decide_true, decide_false, List.length_map, T3, h0, h1, h3, h12, h11, hs]
          · omega

theorem learnR_ev (h k : List Int) (lag c : Int) (hh : h.length ≤ 9223372036854775807) (hk : k.length ≤ 9223372036854775807) (hl : R64 lag) : Ev Try.prog 19 [SL h, SL k, I lag, I c] (learnR h k lag c) := by
  refine ev_of Try.func19 rfl (by kernel_rfl) mo (Nat.le_of_ble_eq_true rfl) ?_
  simp -implicitDefEqProofs (disch := omega) only [go_sem, ↓reduceIte, Nat.reduceEqDiff, Nat.reduceMul, Nat.reduceAdd, Nat.reduceDiv, Nat.reduceBEq, Nat.reduceLeDiff, Int.reduceToNat, Int.reduceNe, Int.reduceEq, Int.reduceLT, Int.reduceLE, Int.reduceBEq, Int.reduceBNe, ne_eq, not_true_eq_false, not_false_eq_true, decide_true, decide_false, List.length_map, Try.ntmps19]
  have hp := pathR_ev h k lag c hh hk hl
  by_cases hcan : canF h k lag c = true
  · rw [pathR, if_pos hcan] at hp
    rw [learnR, if_pos hcan]
    have hin := path_in hcan
    obtain ⟨g1, g2, g3, g4, g5, g6⟩ := valid_holders (can_at hcan).1
    obtain ⟨p1, p2⟩ := path_length (h := h) (k := k) (c := c)
    unfold learnF
    clear hcan
    generalize (pathF h k c).2 = e at hp
    generalize (pathF h k c).1 = l at *
    refine callC_at hp ?_ (h1 := .inl rfl)
    simp -implicitDefEqProofs (disch := omega) only [go_sem, ↓reduceIte, Nat.reduceEqDiff, Nat.reduceMul, Nat.reduceAdd, Nat.reduceDiv, Nat.reduceBEq, Nat.reduceLeDiff, Int.reduceToNat, Int.reduceNe, Int.reduceEq, Int.reduceLT, Int.reduceLE, Int.reduceBEq, Int.reduceBNe, ne_eq, not_true_eq_false, not_false_eq_true, decide_true, decide_false, List.length_map]
    refine loopC_mk (fun n E σ => ∃ i : Nat, i + n = l.length ∧ E 10 = .own 41943360 2 0 l.length ∧ E 13 = .own 41943472 1 0 8 ∧ E 14 = I i ∧ σ 41943360 = some ⟨40, 2, l.map HP⟩ ∧ σ 41943472 = some ⟨3, 1, (learnN (gd l (l.length - 1)).2 l k i).map I⟩) l.length ⟨0, by omega, ?_⟩ ?_
    · simp -implicitDefEqProofs (disch := omega) only [go_sem, ↓reduceIte, Nat.reduceEqDiff, Nat.reduceMul, Nat.reduceAdd, Nat.reduceDiv, Nat.reduceBEq, Nat.reduceLeDiff, Int.reduceToNat, Int.reduceNe, Int.reduceEq, Int.reduceLT, Int.reduceLE, Int.reduceBEq, Int.reduceBNe, ne_eq, not_true_eq_false, not_false_eq_true, decide_true, decide_false, List.length_map]
      exact ⟨by rw [g2], by simp, rfl⟩
    · rintro n E σ ⟨i, hi, h10, h13, h14, hs1, hs2⟩
      simp -implicitDefEqProofs (disch := omega) only [go_sem, ↓reduceIte, Nat.reduceEqDiff, Nat.reduceMul, Nat.reduceAdd, Nat.reduceDiv, Nat.reduceBEq, Nat.reduceLeDiff, Int.reduceToNat, Int.reduceNe, Int.reduceEq, Int.reduceLT, Int.reduceLE, Int.reduceBEq, Int.reduceBNe, ne_eq, not_true_eq_false, not_false_eq_true, decide_true, decide_false, List.length_map, h10, h13, h14, hs1, hs2]
      refine branch_mk (fun hc => ?_) (fun hc => ?_)
      · have hgi := hin _ (gd_mem l i (by omega))
        have hlen := learnN_length (gd l (l.length - 1)).2 l k i
        have e1 : ((l.length : Int) - 1).toNat = l.length - 1 := by omega
        simp -implicitDefEqProofs (disch := omega) only [go_sem, ↓reduceIte, Nat.reduceEqDiff, Nat.reduceMul, Nat.reduceAdd, Nat.reduceDiv, Nat.reduceBEq, Nat.reduceLeDiff, Int.reduceToNat, Int.reduceNe, Int.reduceEq, Int.reduceLT, Int.reduceLE, Int.reduceBEq, Int.reduceBNe, ne_eq, not_true_eq_false, not_false_eq_true, decide_true, decide_false, List.length_map, h10, h13, h14, hs1, hs2, e1]
        refine againQ_mk (n - 1) (by omega) ⟨i + 1, by omega, ?_⟩
        simp -implicitDefEqProofs (disch := omega) only [go_sem, ↓reduceIte, Nat.reduceEqDiff, Nat.reduceMul, Nat.reduceAdd, Nat.reduceDiv, Nat.reduceBEq, Nat.reduceLeDiff, Int.reduceToNat, Int.reduceNe, Int.reduceEq, Int.reduceLT, Int.reduceLE, Int.reduceBEq, Int.reduceBNe, ne_eq, not_true_eq_false, not_false_eq_true, decide_true, decide_false, List.length_map, h10, h13, h14, hs1, hs2]
        exact ⟨by simp, rfl⟩
      · have hlen := learnN_length (gd l (l.length - 1)).2 l k i
        simp -implicitDefEqProofs (disch := omega) only [go_sem, ↓reduceIte, Nat.reduceEqDiff, Nat.reduceMul, Nat.reduceAdd, Nat.reduceDiv, Nat.reduceBEq, Nat.reduceLeDiff, Int.reduceToNat, Int.reduceNe, Int.reduceEq, Int.reduceLT, Int.reduceLE, Int.reduceBEq, Int.reduceBNe, ne_eq, not_true_eq_false, not_false_eq_true, decide_true, decide_false, List.length_map, h10, h13, h14, hs1, hs2, Try.results19]
        rw [show i = l.length from by omega]
  · rw [pathR, if_neg hcan] at hp
    rw [learnR, if_neg hcan]
    refine callC_at hp ?_
    simp -implicitDefEqProofs (disch := omega) only [go_sem, ↓reduceIte, Nat.reduceEqDiff, Nat.reduceMul, Nat.reduceAdd, Nat.reduceDiv, Nat.reduceBEq, Nat.reduceLeDiff, Int.reduceToNat, Int.reduceNe, Int.reduceEq, Int.reduceLT, Int.reduceLE, Int.reduceBEq, Int.reduceBNe, ne_eq, not_true_eq_false, not_false_eq_true, decide_true, decide_false, List.length_map, Try.results19]
end Go.Proofs.Ytmiahmpobpokmaa

/- The contracts of chapter 24: blame. -/
set_option maxRecDepth 100000
set_option linter.unusedSimpArgs false
namespace Go.Proofs.Ytmiahmpobpokmaa
open Go.Vai Go Go.Proofs

theorem blameR_ev (h : List Int) (l : List (Int × Int)) (hh : h.length ≤ 9223372036854775807) (hl : l.length ≤ 1000000) (hr : ∀ x ∈ l, R64 x.1 ∧ R64 x.2) : Ev Try.prog 27 [SL h, HL l] (I (blameF h l)) := by
  refine ev_of Try.func27 rfl (by kernel_rfl) mo (Nat.le_of_ble_eq_true rfl) ?_
  simp -implicitDefEqProofs (disch := omega) only [go_sem, ↓reduceIte, Nat.reduceEqDiff, Nat.reduceMul, Nat.reduceAdd, Nat.reduceDiv, Nat.reduceBEq, Nat.reduceLeDiff, Int.reduceToNat, Int.reduceNe, Int.reduceEq, Int.reduceLT, Int.reduceLE, Int.reduceBEq, Int.reduceBNe, ne_eq, not_true_eq_false, not_false_eq_true, decide_true, decide_false, List.length_map, Try.ntmps27]
  refine callC_at (holders_ev h hh) ?_
  simp -implicitDefEqProofs (disch := omega) only [go_sem, ↓reduceIte, Nat.reduceEqDiff, Nat.reduceMul, Nat.reduceAdd, Nat.reduceDiv, Nat.reduceBEq, Nat.reduceLeDiff, Int.reduceToNat, Int.reduceNe, Int.reduceEq, Int.reduceLT, Int.reduceLE, Int.reduceBEq, Int.reduceBNe, ne_eq, not_true_eq_false, not_false_eq_true, decide_true, decide_false, List.length_map]
  repeat' (first | ((with_reducible refine branch_mk (fun hb => ?_) (fun hb => ?_)) <;> simp -implicitDefEqProofs (disch := omega) only [go_sem, ↓reduceIte, Nat.reduceEqDiff, Nat.reduceMul, Nat.reduceAdd, Nat.reduceDiv, Nat.reduceBEq, Nat.reduceLeDiff, Int.reduceToNat, Int.reduceNe, Int.reduceEq, Int.reduceLT, Int.reduceLE, Int.reduceBEq, Int.reduceBNe, ne_eq, not_true_eq_false, not_false_eq_true, decide_true, decide_false, List.length_map, Try.results27, hb]))
  · simp [blameF, hb]
  · simp [blameF]; intro _ e; omega
  · rename_i hb1
    have hho : holdersF h = true := by simpa using hb1
    have hlen : 1 ≤ h.length ∧ h.length ≤ 30 := by
      simp only [holdersF, Bool.and_eq_true, inF_iff] at hho; omega
    rw [blameF, if_pos ⟨hho, by omega⟩]
    clear hb hb1
    refine loopC_mk (fun n E σ => ∃ i : Nat, i + n = l.length ∧ E 0 = SL h ∧ E 1 = HL l ∧ E 5 = I i ∧ blameN h l 0 l.length = blameN h l i n ∧ ∀ j, j < i → ¬ badF h l j) l.length ⟨0, by omega, ?_⟩ ?_
    · simp -implicitDefEqProofs (disch := omega) only [go_sem, ↓reduceIte, Nat.reduceEqDiff, Nat.reduceMul, Nat.reduceAdd, Nat.reduceDiv, Nat.reduceBEq, Nat.reduceLeDiff, Int.reduceToNat, Int.reduceNe, Int.reduceEq, Int.reduceLT, Int.reduceLE, Int.reduceBEq, Int.reduceBNe, ne_eq, not_true_eq_false, not_false_eq_true, decide_true, decide_false, List.length_map]
      simp
    · rintro n E σ ⟨i, hi, h0, h1, h5, hres, hgood⟩
      simp -implicitDefEqProofs (disch := omega) only [go_sem, ↓reduceIte, Nat.reduceEqDiff, Nat.reduceMul, Nat.reduceAdd, Nat.reduceDiv, Nat.reduceBEq, Nat.reduceLeDiff, Int.reduceToNat, Int.reduceNe, Int.reduceEq, Int.reduceLT, Int.reduceLE, Int.reduceBEq, Int.reduceBNe, ne_eq, not_true_eq_false, not_false_eq_true, decide_true, decide_false, List.length_map, h0, h1, h5]
      refine branch_mk (fun hc => ?_) (fun hc => ?_)
      · obtain ⟨m, rfl⟩ : ∃ m, n = m + 1 := ⟨n - 1, by omega⟩
        have hbad : badF h l i → blameN h l 0 l.length = i := fun hb => by rw [hres, blameN, if_pos hb]
        have hnot : ¬ badF h l i → blameN h l 0 l.length = blameN h l (i + 1) m := fun hb => by rw [hres, blameN, if_neg hb]
        have hprev : 0 < i → 0 ≤ (gd l (i - 1)).2 ∧ (gd l (i - 1)).2 ≤ (h.length : Int) - 1 := fun hp => by
          have := hgood (i - 1) (by omega)
          unfold badF at this; omega
        simp -implicitDefEqProofs (disch := omega) only [go_sem, ↓reduceIte, Nat.reduceEqDiff, Nat.reduceMul, Nat.reduceAdd, Nat.reduceDiv, Nat.reduceBEq, Nat.reduceLeDiff, Int.reduceToNat, Int.reduceNe, Int.reduceEq, Int.reduceLT, Int.reduceLE, Int.reduceBEq, Int.reduceBNe, ne_eq, not_true_eq_false, not_false_eq_true, decide_true, decide_false, List.length_map, h0, h1, h5]
        refine callC_at (in_ev _ _ _) ?_
        simp -implicitDefEqProofs (disch := omega) only [go_sem, ↓reduceIte, Nat.reduceEqDiff, Nat.reduceMul, Nat.reduceAdd, Nat.reduceDiv, Nat.reduceBEq, Nat.reduceLeDiff, Int.reduceToNat, Int.reduceNe, Int.reduceEq, Int.reduceLT, Int.reduceLE, Int.reduceBEq, Int.reduceBNe, ne_eq, not_true_eq_false, not_false_eq_true, decide_true, decide_false, List.length_map, h0, h1, h5]
        refine branch_mk (fun hb => ?_) (fun hb => ?_)
        · have hb1 := (inF_not _ _ _).1 hb
          simp -implicitDefEqProofs (disch := omega) only [go_sem, ↓reduceIte, Nat.reduceEqDiff, Nat.reduceMul, Nat.reduceAdd, Nat.reduceDiv, Nat.reduceBEq, Nat.reduceLeDiff, Int.reduceToNat, Int.reduceNe, Int.reduceEq, Int.reduceLT, Int.reduceLE, Int.reduceBEq, Int.reduceBNe, ne_eq, not_true_eq_false, not_false_eq_true, decide_true, decide_false, List.length_map, h0, h1, h5, Try.results27]
          rw [hbad (.inl hb1)]
        · have hb1 := (inF_iff _ _ _).1 (by simpa using hb)
          simp -implicitDefEqProofs (disch := omega) only [go_sem, ↓reduceIte, Nat.reduceEqDiff, Nat.reduceMul, Nat.reduceAdd, Nat.reduceDiv, Nat.reduceBEq, Nat.reduceLeDiff, Int.reduceToNat, Int.reduceNe, Int.reduceEq, Int.reduceLT, Int.reduceLE, Int.reduceBEq, Int.reduceBNe, ne_eq, not_true_eq_false, not_false_eq_true, decide_true, decide_false, List.length_map, h0, h1, h5]
          refine callC_at (in_ev _ _ _) ?_
          simp -implicitDefEqProofs (disch := omega) only [go_sem, ↓reduceIte, Nat.reduceEqDiff, Nat.reduceMul, Nat.reduceAdd, Nat.reduceDiv, Nat.reduceBEq, Nat.reduceLeDiff, Int.reduceToNat, Int.reduceNe, Int.reduceEq, Int.reduceLT, Int.reduceLE, Int.reduceBEq, Int.reduceBNe, ne_eq, not_true_eq_false, not_false_eq_true, decide_true, decide_false, List.length_map, h0, h1, h5]
          refine branch_mk (fun hb => ?_) (fun hb => ?_)
          · have hb2 := (inF_not _ _ _).1 hb
            simp -implicitDefEqProofs (disch := omega) only [go_sem, ↓reduceIte, Nat.reduceEqDiff, Nat.reduceMul, Nat.reduceAdd, Nat.reduceDiv, Nat.reduceBEq, Nat.reduceLeDiff, Int.reduceToNat, Int.reduceNe, Int.reduceEq, Int.reduceLT, Int.reduceLE, Int.reduceBEq, Int.reduceBNe, ne_eq, not_true_eq_false, not_false_eq_true, decide_true, decide_false, List.length_map, h0, h1, h5, Try.results27]
            rw [hbad (.inr (.inl hb2))]
          · have hb2 := (inF_iff _ _ _).1 (by simpa using hb)
            have ev1 : ((i : Int) - 1).toNat = i - 1 := by omega
            simp -implicitDefEqProofs (disch := omega) only [go_sem, ↓reduceIte, Nat.reduceEqDiff, Nat.reduceMul, Nat.reduceAdd, Nat.reduceDiv, Nat.reduceBEq, Nat.reduceLeDiff, Int.reduceToNat, Int.reduceNe, Int.reduceEq, Int.reduceLT, Int.reduceLE, Int.reduceBEq, Int.reduceBNe, ne_eq, not_true_eq_false, not_false_eq_true, decide_true, decide_false, List.length_map, h0, h1, h5, ev1]
            repeat' (first | ((with_reducible refine branch_mk (fun hb => ?_) (fun hb => ?_)) <;> simp -implicitDefEqProofs (disch := omega) only [go_sem, ↓reduceIte, Nat.reduceEqDiff, Nat.reduceMul, Nat.reduceAdd, Nat.reduceDiv, Nat.reduceBEq, Nat.reduceLeDiff, Int.reduceToNat, Int.reduceNe, Int.reduceEq, Int.reduceLT, Int.reduceLE, Int.reduceBEq, Int.reduceBNe, ne_eq, not_true_eq_false, not_false_eq_true, decide_true, decide_false, List.length_map, h0, h1, h5, ev1, Try.results27, hb]))
            all_goals first
              | (rw [hbad (by unfold badF; omega)]; done)
              | (refine againQ_mk m (by omega) ⟨i + 1, by omega, ?_⟩
                 have hno : ¬ badF h l i := by unfold badF; omega
                 simp -implicitDefEqProofs (disch := omega) only [go_sem, ↓reduceIte, Nat.reduceEqDiff, Nat.reduceMul, Nat.reduceAdd, Nat.reduceDiv, Nat.reduceBEq, Nat.reduceLeDiff, Int.reduceToNat, Int.reduceNe, Int.reduceEq, Int.reduceLT, Int.reduceLE, Int.reduceBEq, Int.reduceBNe, ne_eq, not_true_eq_false, not_false_eq_true, decide_true, decide_false, List.length_map, h0, h1, h5]
                 refine ⟨by simp, hnot hno, fun j hj => ?_⟩
                 by_cases e : j = i
                 · subst e; exact hno
                 · exact hgood j (by omega))
      · simp -implicitDefEqProofs (disch := omega) only [go_sem, ↓reduceIte, Nat.reduceEqDiff, Nat.reduceMul, Nat.reduceAdd, Nat.reduceDiv, Nat.reduceBEq, Nat.reduceLeDiff, Int.reduceToNat, Int.reduceNe, Int.reduceEq, Int.reduceLT, Int.reduceLE, Int.reduceBEq, Int.reduceBNe, ne_eq, not_true_eq_false, not_false_eq_true, decide_true, decide_false, List.length_map, Try.results27]
        have : n = 0 := by omega
        subst this; rw [hres]; rfl
theorem rightR_ev (h : List Int) (l : List (Int × Int)) (hh : h.length ≤ 9223372036854775807) (hl : l.length ≤ 1000000) (hr : ∀ x ∈ l, R64 x.1 ∧ R64 x.2) : Ev Try.prog 25 [SL h, HL l] (B (blameF h l == -1)) := by
  refine ev_of Try.func25 rfl (by kernel_rfl) mo (Nat.le_of_ble_eq_true rfl) ?_
  simp -implicitDefEqProofs (disch := omega) only [go_sem, ↓reduceIte, Nat.reduceEqDiff, Nat.reduceMul, Nat.reduceAdd, Nat.reduceDiv, Nat.reduceBEq, Nat.reduceLeDiff, Int.reduceToNat, Int.reduceNe, Int.reduceEq, Int.reduceLT, Int.reduceLE, Int.reduceBEq, Int.reduceBNe, ne_eq, not_true_eq_false, not_false_eq_true, decide_true, decide_false, List.length_map, Try.ntmps25]
  refine callC_at (blameR_ev h l hh hl hr) ?_
  simp -implicitDefEqProofs (disch := omega) only [go_sem, ↓reduceIte, Nat.reduceEqDiff, Nat.reduceMul, Nat.reduceAdd, Nat.reduceDiv, Nat.reduceBEq, Nat.reduceLeDiff, Int.reduceToNat, Int.reduceNe, Int.reduceEq, Int.reduceLT, Int.reduceLE, Int.reduceBEq, Int.reduceBNe, ne_eq, not_true_eq_false, not_false_eq_true, decide_true, decide_false, List.length_map, Try.results25]
end Go.Proofs.Ytmiahmpobpokmaa

/- The contracts of chapter 24: the hops of a call, handed to yield. -/
set_option maxRecDepth 100000
set_option linter.unusedSimpArgs false
namespace Go.Proofs.Ytmiahmpobpokmaa
open Go.Vai Go Go.Proofs

/-- The hops with their ends. -/
def stepsF (h k : List Int) : Nat → Int → Int → List (Int × Int × Int)
  | 0, _, _ => []
  | n + 1, c, u =>
    if (decideF h k c u).2.2 = 0 then (c, (decideF h k c u).1, 0) :: stepsF h k n (decideF h k c u).2.1 (decideF h k c u).1
    else [(c, (decideF h k c u).1, (decideF h k c u).2.2)]
abbrev YP (x : Int × Int × Int) : List AV := [HP (x.1, x.2.1), I x.2.2]

@[go_sem] theorem namesL_steps (p : Nat → Bool) (l : List (Int × Int × Int)) : AV.namesL p ((l.map YP).map .tup) = false := by
  rw [List.map_map]; exact namesL_map p l _ fun _ => rfl
theorem hops_sok (h k : List Int) (lag c : Int) (a b d : Nat) (σ : Store) (hcan : canF h k lag c = true) (ha : σ a = some ⟨22, 1, [SL h]⟩) (hb : σ b = some ⟨22, 1, [SL k]⟩) (hd : σ d = some ⟨3, 1, [I c]⟩)
    (hab : a ≠ b) (had : a ≠ d) (hbd : b ≠ d) (hA : a / 16 < 6291456 ∨ 6391456 ≤ a / 16) (hB : b / 16 < 6291456 ∨ 6391456 ≤ b / 16) (hD : d / 16 < 6291456 ∨ 6391456 ≤ d / 16) :
    SOK Try.prog 47 [.ptr a 1 0 0, .ptr b 1 0 0, .ptr d 1 0 0] σ ((stepsF h k (h.length + 1) c (-1)).map YP) := by
  refine sok_of Try.func47 rfl (by kernel_rfl) mo (Nat.le_of_ble_eq_true rfl) ?_ rfl fun l => ?_
  · exact namesL_steps allB _
  · simp -implicitDefEqProofs (disch := omega) only [go_sem, ↓reduceIte, Nat.reduceEqDiff, Nat.reduceMul, Nat.reduceAdd, Nat.reduceDiv, Nat.reduceBEq, Nat.reduceLeDiff, Int.reduceToNat, Int.reduceNe, Int.reduceEq, Int.reduceLT, Int.reduceLE, Int.reduceBEq, Int.reduceBNe, ne_eq, not_true_eq_false, not_false_eq_true, decide_true, decide_false, List.length_map, Try.ntmps47]
    obtain ⟨hv, hat⟩ := can_at hcan
    have eA : (a / 16 = 6291470) = False := by simp; omega
    have eB : (b / 16 = 6291470) = False := by simp; omega
    have eD : (d / 16 = 6291470) = False := by simp; omega
    refine loopC_mk (fun n E σ => ∃ (c u : Int), AtF h k c u ∧ (h.length : Int) - u ≤ n ∧ E 0 = .yld l ∧ E 1 = .ptr a 1 0 0 ∧ E 2 = .ptr b 1 0 0 ∧ E 3 = .ptr d 1 0 0 ∧ E 5 = I u ∧ E 31 = .tup (((stepsF h k n c u).map YP).map .tup) ∧
      σ a = some ⟨22, 1, [SL h]⟩ ∧ σ b = some ⟨22, 1, [SL k]⟩ ∧ σ d = some ⟨3, 1, [I c]⟩) (h.length + 1) ⟨c, -1, hat, by omega, ?_⟩ ?_
    · simp -implicitDefEqProofs (disch := omega) only [go_sem, ↓reduceIte, Nat.reduceEqDiff, Nat.reduceMul, Nat.reduceAdd, Nat.reduceDiv, Nat.reduceBEq, Nat.reduceLeDiff, Int.reduceToNat, Int.reduceNe, Int.reduceEq, Int.reduceLT, Int.reduceLE, Int.reduceBEq, Int.reduceBNe, ne_eq, not_true_eq_false, not_false_eq_true, decide_true, decide_false, List.length_map, ha, hb, hd]
    · clear hat ha hb hd hcan c σ
      rintro n E σ ⟨c, u, hat, hn, h0, h1, h2, h3, h5, h31, ha, hb, hd⟩
      obtain ⟨d1, d2, d3⟩ := at_decide hv hat
      obtain ⟨s1, s2, s3, s4, s5⟩ := at_step hv hat
      obtain ⟨m, rfl⟩ : ∃ m, n = m + 1 := ⟨n - 1, by have := hat.2.2.2.2.1; omega⟩
      by_cases he : (decideF h k c u).2.2 = 0
      · have hst : stepsF h k (m + 1) c u = (c, (decideF h k c u).1, 0) :: stepsF h k m (decideF h k c u).2.1 (decideF h k c u).1 := by rw [stepsF, if_pos he]
        rw [hst] at h31
        simp -implicitDefEqProofs (disch := omega) only [go_sem, ↓reduceIte, Nat.reduceEqDiff, Nat.reduceMul, Nat.reduceAdd, Nat.reduceDiv, Nat.reduceBEq, Nat.reduceLeDiff, Int.reduceToNat, Int.reduceNe, Int.reduceEq, Int.reduceLT, Int.reduceLE, Int.reduceBEq, Int.reduceBNe, ne_eq, not_true_eq_false, not_false_eq_true, decide_true, decide_false, List.length_map, h0, h1, h2, h3, h5, ha, hb, hd]
        refine callC_at (decide_ev h k c u d1 d2 d3.2) ?_
        simp -implicitDefEqProofs (disch := omega) only [go_sem, ↓reduceIte, Nat.reduceEqDiff, Nat.reduceMul, Nat.reduceAdd, Nat.reduceDiv, Nat.reduceBEq, Nat.reduceLeDiff, Int.reduceToNat, Int.reduceNe, Int.reduceEq, Int.reduceLT, Int.reduceLE, Int.reduceBEq, Int.reduceBNe, ne_eq, not_true_eq_false, not_false_eq_true, decide_true, decide_false, List.length_map, T3, h0, h1, h2, h3, h5, h31, ha, hb, hd, eA, eB, eD, he]
        rcases s5 with ⟨_, s6, s7, s8⟩ | ⟨_, s6⟩
        · refine ⟨againQ_mk m (by omega) ⟨_, _, s8, by omega, ?_⟩, ?_⟩
          · simp -implicitDefEqProofs (disch := omega) only [go_sem, ↓reduceIte, Nat.reduceEqDiff, Nat.reduceMul, Nat.reduceAdd, Nat.reduceDiv, Nat.reduceBEq, Nat.reduceLeDiff, Int.reduceToNat, Int.reduceNe, Int.reduceEq, Int.reduceLT, Int.reduceLE, Int.reduceBEq, Int.reduceBNe, ne_eq, not_true_eq_false, not_false_eq_true, decide_true, decide_false, List.length_map, T3, h0, h1, h2, h3, h5, h31, ha, hb, hd, eA, eB, eD, he]
            exact ⟨by rw [if_neg had], by rw [if_neg hbd]⟩
          · exact .inr trivial
        · omega
      · have hst : stepsF h k (m + 1) c u = [(c, (decideF h k c u).1, (decideF h k c u).2.2)] := by rw [stepsF, if_neg he]
        rw [hst] at h31
        simp -implicitDefEqProofs (disch := omega) only [go_sem, ↓reduceIte, Nat.reduceEqDiff, Nat.reduceMul, Nat.reduceAdd, Nat.reduceDiv, Nat.reduceBEq, Nat.reduceLeDiff, Int.reduceToNat, Int.reduceNe, Int.reduceEq, Int.reduceLT, Int.reduceLE, Int.reduceBEq, Int.reduceBNe, ne_eq, not_true_eq_false, not_false_eq_true, decide_true, decide_false, List.length_map, h0, h1, h2, h3, h5, ha, hb, hd]
        refine callC_at (decide_ev h k c u d1 d2 d3.2) ?_
        simp -implicitDefEqProofs (disch := omega) only [go_sem, ↓reduceIte, Nat.reduceEqDiff, Nat.reduceMul, Nat.reduceAdd, Nat.reduceDiv, Nat.reduceBEq, Nat.reduceLeDiff, Int.reduceToNat, Int.reduceNe, Int.reduceEq, Int.reduceLT, Int.reduceLE, Int.reduceBEq, Int.reduceBNe, ne_eq, not_true_eq_false, not_false_eq_true, decide_true, decide_false, List.length_map, T3, h0, h1, h2, h3, h5, h31, ha, hb, hd, eA, eB, eD, he]
        exact ⟨.inl trivial, .inr trivial⟩
end Go.Proofs.Ytmiahmpobpokmaa

/- The contracts of chapter 24: paths. -/
set_option maxRecDepth 100000
set_option linter.unusedSimpArgs false
namespace Go.Proofs.Ytmiahmpobpokmaa
open Go.Vai Go Go.Proofs

theorem hops_ev (h k : List Int) (c : Int) : Ev Try.prog 37 [SL h, SL k, I c] (.clo 47 [.nptr 22 1 [SL h], .nptr 22 1 [SL k], .nptr 3 1 [I c]]) := by
  refine ev_of Try.func37 rfl (by kernel_rfl) mo (Nat.le_of_ble_eq_true rfl) ?_
  simp -implicitDefEqProofs (disch := omega) only [go_sem, ↓reduceIte, Nat.reduceEqDiff, Nat.reduceMul, Nat.reduceAdd, Nat.reduceDiv, Nat.reduceBEq, Nat.reduceLeDiff, Int.reduceToNat, Int.reduceNe, Int.reduceEq, Int.reduceLT, Int.reduceLE, Int.reduceBEq, Int.reduceBNe, ne_eq, not_true_eq_false, not_false_eq_true, decide_true, decide_false, List.length_map, Try.ntmps37, Try.results37]

abbrev hopOf (x : Int × Int × Int) : Int × Int := (x.1, x.2.1)
def endF (d : List (Int × Int × Int)) : Int := if d = [] then 0 else (gd d (d.length - 1)).2.2
theorem endF_snoc (d : List (Int × Int × Int)) (x : Int × Int × Int) : endF (d ++ [x]) = x.2.2 := by
  unfold endF
  rw [if_neg (by simp), gd_append_right _ _ _ (by simp)]; simp
theorem steps_walk (h k : List Int) : ∀ (n : Nat) (c u : Int), (stepsF h k n c u).map hopOf = (walkF h k n c u).1
  | 0, _, _ => rfl
  | n + 1, c, u => by
    rw [stepsF, walkF]
    split
    · simp only [List.map_cons, steps_walk h k n]
    · rfl
theorem steps_ne (h k : List Int) (n : Nat) (c u : Int) : stepsF h k (n + 1) c u ≠ [] := by rw [stepsF]; split <;> simp
theorem steps_end {h k : List Int} {lag : Int} (hv : validF h k lag = true) : ∀ (n : Nat) (c u : Int), AtF h k c u → (h.length : Int) - u ≤ n → endF (stepsF h k n c u) = (walkF h k n c u).2
  | 0, c, u, ha, hn => by have := ha.2.2.2.2.1; omega
  | n + 1, c, u, ha, hn => by
    obtain ⟨s1, s2, s3, s4, s5⟩ := at_step hv ha
    rw [stepsF, walkF]
    split
    · rename_i he
      rcases s5 with ⟨_, s6, s7, s8⟩ | ⟨_, s6⟩
      · have ih := steps_end hv n _ _ s8 (by omega)
        simp only
        rw [← ih]
        obtain ⟨m, rfl⟩ : ∃ m, n = m + 1 := ⟨n - 1, by have := s8.2.2.2.2.1; omega⟩
        have hne := steps_ne h k m (decideF h k c u).2.1 (decideF h k c u).1
        generalize stepsF h k (m + 1) (decideF h k c u).2.1 (decideF h k c u).1 = l at *
        unfold endF
        rw [if_neg (by simp), if_neg hne]
        have := List.length_pos_iff.2 hne
        rw [List.length_cons, show l.length + 1 - 1 = (l.length - 1) + 1 from by omega, gd_cons_succ]
      · omega
    · rfl

theorem path_ev (h k : List Int) (lag c : Int) (hh : h.length ≤ 9223372036854775807) (hk : k.length ≤ 9223372036854775807) (hl : R64 lag) : Ev Try.prog 16 [SL h, SL k, I lag, I c] (pathR h k lag c) := by
  refine ev_of Try.func16 rfl (by kernel_rfl) mo (Nat.le_of_ble_eq_true rfl) ?_
  simp -implicitDefEqProofs (disch := omega) only [go_sem, ↓reduceIte, Nat.reduceEqDiff, Nat.reduceMul, Nat.reduceAdd, Nat.reduceDiv, Nat.reduceBEq, Nat.reduceLeDiff, Int.reduceToNat, Int.reduceNe, Int.reduceEq, Int.reduceLT, Int.reduceLE, Int.reduceBEq, Int.reduceBNe, ne_eq, not_true_eq_false, not_false_eq_true, decide_true, decide_false, List.length_map, Try.ntmps16]
  refine callC_at (canCall_ev h k lag c hh hk hl) ?_
  simp -implicitDefEqProofs (disch := omega) only [go_sem, ↓reduceIte, Nat.reduceEqDiff, Nat.reduceMul, Nat.reduceAdd, Nat.reduceDiv, Nat.reduceBEq, Nat.reduceLeDiff, Int.reduceToNat, Int.reduceNe, Int.reduceEq, Int.reduceLT, Int.reduceLE, Int.reduceBEq, Int.reduceBNe, ne_eq, not_true_eq_false, not_false_eq_true, decide_true, decide_false, List.length_map]
  refine branch_mk (fun hb => ?_) (fun hb => ?_)
  · simp -implicitDefEqProofs (disch := omega) only [go_sem, ↓reduceIte, Nat.reduceEqDiff, Nat.reduceMul, Nat.reduceAdd, Nat.reduceDiv, Nat.reduceBEq, Nat.reduceLeDiff, Int.reduceToNat, Int.reduceNe, Int.reduceEq, Int.reduceLT, Int.reduceLE, Int.reduceBEq, Int.reduceBNe, ne_eq, not_true_eq_false, not_false_eq_true, decide_true, decide_false, List.length_map, Try.results16]
    simp [pathR, hb]
  · simp -implicitDefEqProofs (disch := omega) only [go_sem, ↓reduceIte, Nat.reduceEqDiff, Nat.reduceMul, Nat.reduceAdd, Nat.reduceDiv, Nat.reduceBEq, Nat.reduceLeDiff, Int.reduceToNat, Int.reduceNe, Int.reduceEq, Int.reduceLT, Int.reduceLE, Int.reduceBEq, Int.reduceBNe, ne_eq, not_true_eq_false, not_false_eq_true, decide_true, decide_false, List.length_map]
    have hcan : canF h k lag c = true := by simpa using hb
    refine callC_at (hops_ev h k c) ?_
    simp -implicitDefEqProofs (disch := omega) only [go_sem, ↓reduceIte, Nat.reduceEqDiff, Nat.reduceMul, Nat.reduceAdd, Nat.reduceDiv, Nat.reduceBEq, Nat.reduceLeDiff, Int.reduceToNat, Int.reduceNe, Int.reduceEq, Int.reduceLT, Int.reduceLE, Int.reduceBEq, Int.reduceBNe, ne_eq, not_true_eq_false, not_false_eq_true, decide_true, decide_false, List.length_map]
    refine awpC_range ?_
    refine range_mk [35651968, 35651969, 35651970] [35651760, 35651776] 2228324 ((stepsF h k (h.length + 1) c (-1)).map YP)
      (fun xs σ => ∃ d r, stepsF h k (h.length + 1) c (-1) = d ++ r ∧ xs = r.map YP ∧ σ 35651776 = some ⟨3, 1, [I (endF d)]⟩ ∧ σ 35651760 = some ⟨23, 1, [.own 35651761 2 0 d.length]⟩ ∧ σ 35651761 = some ⟨40, 2, (d.map hopOf).map HP⟩)
      (g := 47) (caps := [.ptr 35651968 1 0 0, .ptr 35651969 1 0 0, .ptr 35651970 1 0 0]) ?_ ?_ ?_ ?_ ?_ ?_ ?_ ?_
    · simp -implicitDefEqProofs (disch := omega) only [go_sem, ↓reduceIte, Nat.reduceEqDiff, Nat.reduceMul, Nat.reduceAdd, Nat.reduceDiv, Nat.reduceBEq, Nat.reduceLeDiff, Int.reduceToNat, Int.reduceNe, Int.reduceEq, Int.reduceLT, Int.reduceLE, Int.reduceBEq, Int.reduceBNe, ne_eq, not_true_eq_false, not_false_eq_true, decide_true, decide_false, List.length_map]
    · refine hops_sok h k lag c _ _ _ _ hcan ?_ ?_ ?_ (by decide) (by decide) (by decide) (by decide) (by decide) (by decide) <;> simp -implicitDefEqProofs (disch := omega) only [go_sem, ↓reduceIte, Nat.reduceEqDiff, Nat.reduceMul, Nat.reduceAdd, Nat.reduceDiv, Nat.reduceBEq, Nat.reduceLeDiff, Int.reduceToNat, Int.reduceNe, Int.reduceEq, Int.reduceLT, Int.reduceLE, Int.reduceBEq, Int.reduceBNe, ne_eq, not_true_eq_false, not_false_eq_true, decide_true, decide_false, List.length_map]
    · intro x hx
      obtain ⟨y, _, rfl⟩ := List.mem_map.1 hx
      rfl
    · simp -implicitDefEqProofs (disch := omega) only [go_sem, ↓reduceIte, Nat.reduceEqDiff, Nat.reduceMul, Nat.reduceAdd, Nat.reduceDiv, Nat.reduceBEq, Nat.reduceLeDiff, Int.reduceToNat, Int.reduceNe, Int.reduceEq, Int.reduceLT, Int.reduceLE, Int.reduceBEq, Int.reduceBNe, ne_eq, not_true_eq_false, not_false_eq_true, decide_true, decide_false, List.length_map]
    · simp -implicitDefEqProofs (disch := omega) only [go_sem, ↓reduceIte, Nat.reduceEqDiff, Nat.reduceMul, Nat.reduceAdd, Nat.reduceDiv, Nat.reduceBEq, Nat.reduceLeDiff, Int.reduceToNat, Int.reduceNe, Int.reduceEq, Int.reduceLT, Int.reduceLE, Int.reduceBEq, Int.reduceBNe, ne_eq, not_true_eq_false, not_false_eq_true, decide_true, decide_false, List.length_map]
    · simp -implicitDefEqProofs (disch := omega) only [go_sem, ↓reduceIte, Nat.reduceEqDiff, Nat.reduceMul, Nat.reduceAdd, Nat.reduceDiv, Nat.reduceBEq, Nat.reduceLeDiff, Int.reduceToNat, Int.reduceNe, Int.reduceEq, Int.reduceLT, Int.reduceLE, Int.reduceBEq, Int.reduceBNe, ne_eq, not_true_eq_false, not_false_eq_true, decide_true, decide_false, List.length_map]
      exact ⟨[], _, rfl, rfl, rfl, rfl, rfl⟩
    · rintro E0 hE0 x rest σ ⟨d, r, hst, hxs, h76, h60, h61⟩
      have e11 : E0 11 = .ptr 35651760 1 0 0 := by rw [hE0]; simp -implicitDefEqProofs (disch := omega) only [go_sem, ↓reduceIte, Nat.reduceEqDiff, Nat.reduceMul, Nat.reduceAdd, Nat.reduceDiv, Nat.reduceBEq, Nat.reduceLeDiff, Int.reduceToNat, Int.reduceNe, Int.reduceEq, Int.reduceLT, Int.reduceLE, Int.reduceBEq, Int.reduceBNe, ne_eq, not_true_eq_false, not_false_eq_true, decide_true, decide_false, List.length_map]
      have e12 : E0 12 = .ptr 35651776 1 0 0 := by rw [hE0]; simp -implicitDefEqProofs (disch := omega) only [go_sem, ↓reduceIte, Nat.reduceEqDiff, Nat.reduceMul, Nat.reduceAdd, Nat.reduceDiv, Nat.reduceBEq, Nat.reduceLeDiff, Int.reduceToNat, Int.reduceNe, Int.reduceEq, Int.reduceLT, Int.reduceLE, Int.reduceBEq, Int.reduceBNe, ne_eq, not_true_eq_false, not_false_eq_true, decide_true, decide_false, List.length_map]
      obtain ⟨y, r', rfl, rfl, rfl⟩ : ∃ y r', r = y :: r' ∧ x = YP y ∧ rest = r'.map YP := by
        cases r with
        | nil => cases hxs
        | cons y r' => simp only [List.map_cons, List.cons.injEq] at hxs; exact ⟨y, r', rfl, hxs.1, hxs.2⟩
      clear hE0
      have hlen : d.length ≤ 31 := by
        have h1 := congrArg List.length (steps_walk h k (h.length + 1) c (-1))
        have h2 := (walk_length (h := h) (k := k) (h.length + 1) c (-1)).2
        have h3 := (valid_holders (can_at hcan).1).2.2.2.2.2
        rw [List.length_map, hst, List.length_append] at h1
        omega
      simp -implicitDefEqProofs (disch := omega) only [go_sem, ↓reduceIte, Nat.reduceEqDiff, Nat.reduceMul, Nat.reduceAdd, Nat.reduceDiv, Nat.reduceBEq, Nat.reduceLeDiff, Int.reduceToNat, Int.reduceNe, Int.reduceEq, Int.reduceLT, Int.reduceLE, Int.reduceBEq, Int.reduceBNe, ne_eq, not_true_eq_false, not_false_eq_true, decide_true, decide_false, List.length_map, e11, e12, h76, h60, h61]
      refine ⟨inL [], fun _ _ => rfl, d ++ [y], r', by rw [hst]; simp, rfl, ?_⟩
      simp -implicitDefEqProofs (disch := omega) only [go_sem, ↓reduceIte, Nat.reduceEqDiff, Nat.reduceMul, Nat.reduceAdd, Nat.reduceDiv, Nat.reduceBEq, Nat.reduceLeDiff, Int.reduceToNat, Int.reduceNe, Int.reduceEq, Int.reduceLT, Int.reduceLE, Int.reduceBEq, Int.reduceBNe, ne_eq, not_true_eq_false, not_false_eq_true, decide_true, decide_false, List.length_map, e11, e12, h76, h60, h61]
      exact ⟨by rw [endF_snoc], by simp⟩
    · rintro E0 hE0 σ ⟨d, r, hst, hxs, h76, h60, h61⟩
      have e11 : E0 11 = .ptr 35651760 1 0 0 := by rw [hE0]; simp -implicitDefEqProofs (disch := omega) only [go_sem, ↓reduceIte, Nat.reduceEqDiff, Nat.reduceMul, Nat.reduceAdd, Nat.reduceDiv, Nat.reduceBEq, Nat.reduceLeDiff, Int.reduceToNat, Int.reduceNe, Int.reduceEq, Int.reduceLT, Int.reduceLE, Int.reduceBEq, Int.reduceBNe, ne_eq, not_true_eq_false, not_false_eq_true, decide_true, decide_false, List.length_map]
      have e12 : E0 12 = .ptr 35651776 1 0 0 := by rw [hE0]; simp -implicitDefEqProofs (disch := omega) only [go_sem, ↓reduceIte, Nat.reduceEqDiff, Nat.reduceMul, Nat.reduceAdd, Nat.reduceDiv, Nat.reduceBEq, Nat.reduceLeDiff, Int.reduceToNat, Int.reduceNe, Int.reduceEq, Int.reduceLT, Int.reduceLE, Int.reduceBEq, Int.reduceBNe, ne_eq, not_true_eq_false, not_false_eq_true, decide_true, decide_false, List.length_map]
      clear hE0
      simp -implicitDefEqProofs (disch := omega) only [go_sem, ↓reduceIte, Nat.reduceEqDiff, Nat.reduceMul, Nat.reduceAdd, Nat.reduceDiv, Nat.reduceBEq, Nat.reduceLeDiff, Int.reduceToNat, Int.reduceNe, Int.reduceEq, Int.reduceLT, Int.reduceLE, Int.reduceBEq, Int.reduceBNe, ne_eq, not_true_eq_false, not_false_eq_true, decide_true, decide_false, List.length_map, e11, e12, h76, h60, h61, Try.results16]
      have hr : r = [] := by simpa using hxs.symm
      subst hr
      obtain ⟨hv, hat⟩ := can_at hcan
      have h1 := steps_walk h k (h.length + 1) c (-1)
      have h2 := steps_end hv (h.length + 1) c (-1) hat (by omega)
      rw [hst, List.append_nil] at h1 h2
      rw [pathR, if_pos hcan, h1, h2]
      rfl
end Go.Proofs.Ytmiahmpobpokmaa

/- The contracts of chapter 24: learning, blaming. -/
set_option maxRecDepth 100000
set_option linter.unusedSimpArgs false
namespace Go.Proofs.Ytmiahmpobpokmaa
open Go.Vai Go Go.Proofs

theorem learn_ev (h k : List Int) (lag c : Int) (hh : h.length ≤ 9223372036854775807) (hk : k.length ≤ 9223372036854775807) (hl : R64 lag) : Ev Try.prog 18 [SL h, SL k, I lag, I c] (learnR h k lag c) := by
  refine ev_of Try.func18 rfl (by kernel_rfl) mo (Nat.le_of_ble_eq_true rfl) ?_
  simp -implicitDefEqProofs (disch := omega) only [go_sem, ↓reduceIte, Nat.reduceEqDiff, Nat.reduceMul, Nat.reduceAdd, Nat.reduceDiv, Nat.reduceBEq, Nat.reduceLeDiff, Int.reduceToNat, Int.reduceNe, Int.reduceEq, Int.reduceLT, Int.reduceLE, Int.reduceBEq, Int.reduceBNe, ne_eq, not_true_eq_false, not_false_eq_true, decide_true, decide_false, List.length_map, Try.ntmps18]
  have hp := path_ev h k lag c hh hk hl
  by_cases hcan : canF h k lag c = true
  · rw [pathR, if_pos hcan] at hp
    rw [learnR, if_pos hcan]
    have hin := path_in hcan
    obtain ⟨g1, g2, g3, g4, g5, g6⟩ := valid_holders (can_at hcan).1
    obtain ⟨p1, p2⟩ := path_length (h := h) (k := k) (c := c)
    unfold learnF
    clear hcan
    generalize (pathF h k c).2 = e at hp
    generalize (pathF h k c).1 = l at *
    refine callC_at hp ?_ (h1 := .inl rfl)
    simp -implicitDefEqProofs (disch := omega) only [go_sem, ↓reduceIte, Nat.reduceEqDiff, Nat.reduceMul, Nat.reduceAdd, Nat.reduceDiv, Nat.reduceBEq, Nat.reduceLeDiff, Int.reduceToNat, Int.reduceNe, Int.reduceEq, Int.reduceLT, Int.reduceLE, Int.reduceBEq, Int.reduceBNe, ne_eq, not_true_eq_false, not_false_eq_true, decide_true, decide_false, List.length_map]
    refine callC_at (clone_ev k (by omega) (by omega)) ?_
    simp -implicitDefEqProofs (disch := omega) only [go_sem, ↓reduceIte, Nat.reduceEqDiff, Nat.reduceMul, Nat.reduceAdd, Nat.reduceDiv, Nat.reduceBEq, Nat.reduceLeDiff, Int.reduceToNat, Int.reduceNe, Int.reduceEq, Int.reduceLT, Int.reduceLE, Int.reduceBEq, Int.reduceBNe, ne_eq, not_true_eq_false, not_false_eq_true, decide_true, decide_false, List.length_map]
    refine loopC_mk (fun n E σ => ∃ i : Nat, i + n = l.length ∧ E 10 = .own 39846224 2 0 l.length ∧ E 13 = .own 39846352 1 0 8 ∧ E 30 = .own 39846224 2 0 l.length ∧ E 31 = I l.length ∧ E 32 = I i ∧ σ 39846224 = some ⟨40, 2, l.map HP⟩ ∧ σ 39846352 = some ⟨3, 1, (learnN (gd l (l.length - 1)).2 l k i).map I⟩) l.length ⟨0, by omega, ?_⟩ ?_
    · simp -implicitDefEqProofs (disch := omega) only [go_sem, ↓reduceIte, Nat.reduceEqDiff, Nat.reduceMul, Nat.reduceAdd, Nat.reduceDiv, Nat.reduceBEq, Nat.reduceLeDiff, Int.reduceToNat, Int.reduceNe, Int.reduceEq, Int.reduceLT, Int.reduceLE, Int.reduceBEq, Int.reduceBNe, ne_eq, not_true_eq_false, not_false_eq_true, decide_true, decide_false, List.length_map]
      exact ⟨by rw [g2], by simp, rfl⟩
    · rintro n E σ ⟨i, hi, h10, h13, h30, h31, h32, hs1, hs2⟩
      simp -implicitDefEqProofs (disch := omega) only [go_sem, ↓reduceIte, Nat.reduceEqDiff, Nat.reduceMul, Nat.reduceAdd, Nat.reduceDiv, Nat.reduceBEq, Nat.reduceLeDiff, Int.reduceToNat, Int.reduceNe, Int.reduceEq, Int.reduceLT, Int.reduceLE, Int.reduceBEq, Int.reduceBNe, ne_eq, not_true_eq_false, not_false_eq_true, decide_true, decide_false, List.length_map, h10, h13, h30, h31, h32, hs1, hs2]
      have hlen := learnN_length (gd l (l.length - 1)).2 l k i
      refine branch_mk (fun hc => ?_) (fun hc => ?_)
      · have hgi := hin _ (gd_mem l i (by omega))
        have e1 : ((l.length : Int) - 1).toNat = l.length - 1 := by omega
        simp -implicitDefEqProofs (disch := omega) only [go_sem, ↓reduceIte, Nat.reduceEqDiff, Nat.reduceMul, Nat.reduceAdd, Nat.reduceDiv, Nat.reduceBEq, Nat.reduceLeDiff, Int.reduceToNat, Int.reduceNe, Int.reduceEq, Int.reduceLT, Int.reduceLE, Int.reduceBEq, Int.reduceBNe, ne_eq, not_true_eq_false, not_false_eq_true, decide_true, decide_false, List.length_map, h10, h13, h30, h31, h32, hs1, hs2, e1]
        refine againQ_mk (n - 1) (by omega) ⟨i + 1, by omega, ?_⟩
        simp -implicitDefEqProofs (disch := omega) only [go_sem, ↓reduceIte, Nat.reduceEqDiff, Nat.reduceMul, Nat.reduceAdd, Nat.reduceDiv, Nat.reduceBEq, Nat.reduceLeDiff, Int.reduceToNat, Int.reduceNe, Int.reduceEq, Int.reduceLT, Int.reduceLE, Int.reduceBEq, Int.reduceBNe, ne_eq, not_true_eq_false, not_false_eq_true, decide_true, decide_false, List.length_map, h10, h13, h30, h31, h32, hs1, hs2]
        exact ⟨by simp, rfl⟩
      · simp -implicitDefEqProofs (disch := omega) only [go_sem, ↓reduceIte, Nat.reduceEqDiff, Nat.reduceMul, Nat.reduceAdd, Nat.reduceDiv, Nat.reduceBEq, Nat.reduceLeDiff, Int.reduceToNat, Int.reduceNe, Int.reduceEq, Int.reduceLT, Int.reduceLE, Int.reduceBEq, Int.reduceBNe, ne_eq, not_true_eq_false, not_false_eq_true, decide_true, decide_false, List.length_map, h10, h13, h30, h31, h32, hs1, hs2, Try.results18]
        rw [show i = l.length from by omega]
  · rw [pathR, if_neg hcan] at hp
    rw [learnR, if_neg hcan]
    refine callC_at hp ?_
    simp -implicitDefEqProofs (disch := omega) only [go_sem, ↓reduceIte, Nat.reduceEqDiff, Nat.reduceMul, Nat.reduceAdd, Nat.reduceDiv, Nat.reduceBEq, Nat.reduceLeDiff, Int.reduceToNat, Int.reduceNe, Int.reduceEq, Int.reduceLT, Int.reduceLE, Int.reduceBEq, Int.reduceBNe, ne_eq, not_true_eq_false, not_false_eq_true, decide_true, decide_false, List.length_map, Try.results18]

theorem blame1_ev (h : List Int) (l : List (Int × Int)) (i : Nat) (hi : i < l.length) (hl : l.length ≤ 1000000) (hh : 1 ≤ h.length ∧ h.length ≤ 30) (hprev : 0 < i → 0 ≤ (gd l (i - 1)).2 ∧ (gd l (i - 1)).2 ≤ (h.length : Int) - 1) :
    Ev Try.prog 43 [I i, HP (gd l i), .pt (SL h) 0, .pt (HL l) 0] (B (decide (badF h l i))) := by
  refine ev_of Try.func43 rfl (by kernel_rfl) mo (Nat.le_of_ble_eq_true rfl) ?_
  simp -implicitDefEqProofs (disch := omega) only [go_sem, ↓reduceIte, Nat.reduceEqDiff, Nat.reduceMul, Nat.reduceAdd, Nat.reduceDiv, Nat.reduceBEq, Nat.reduceLeDiff, Int.reduceToNat, Int.reduceNe, Int.reduceEq, Int.reduceLT, Int.reduceLE, Int.reduceBEq, Int.reduceBNe, ne_eq, not_true_eq_false, not_false_eq_true, decide_true, decide_false, List.length_map, Try.ntmps43]
  have ev1 : ((i : Int) - 1).toNat = i - 1 := by omega
  refine callC_at (isWithin_ev _ _ _) ?_
  simp -implicitDefEqProofs (disch := omega) only [go_sem, ↓reduceIte, Nat.reduceEqDiff, Nat.reduceMul, Nat.reduceAdd, Nat.reduceDiv, Nat.reduceBEq, Nat.reduceLeDiff, Int.reduceToNat, Int.reduceNe, Int.reduceEq, Int.reduceLT, Int.reduceLE, Int.reduceBEq, Int.reduceBNe, ne_eq, not_true_eq_false, not_false_eq_true, decide_true, decide_false, List.length_map]
  refine branch_mk (fun hb => ?_) (fun hb => ?_)
  · have hb1 := (inF_not _ _ _).1 hb
    simp -implicitDefEqProofs (disch := omega) only [go_sem, ↓reduceIte, Nat.reduceEqDiff, Nat.reduceMul, Nat.reduceAdd, Nat.reduceDiv, Nat.reduceBEq, Nat.reduceLeDiff, Int.reduceToNat, Int.reduceNe, Int.reduceEq, Int.reduceLT, Int.reduceLE, Int.reduceBEq, Int.reduceBNe, ne_eq, not_true_eq_false, not_false_eq_true, decide_true, decide_false, List.length_map, Try.results43]
    rw [decide_eq_true (p := badF h l i) (.inl hb1)]
  · have hb1 := (inF_iff _ _ _).1 (by simpa using hb)
    simp -implicitDefEqProofs (disch := omega) only [go_sem, ↓reduceIte, Nat.reduceEqDiff, Nat.reduceMul, Nat.reduceAdd, Nat.reduceDiv, Nat.reduceBEq, Nat.reduceLeDiff, Int.reduceToNat, Int.reduceNe, Int.reduceEq, Int.reduceLT, Int.reduceLE, Int.reduceBEq, Int.reduceBNe, ne_eq, not_true_eq_false, not_false_eq_true, decide_true, decide_false, List.length_map]
    refine callC_at (isWithin_ev _ _ _) ?_
    simp -implicitDefEqProofs (disch := omega) only [go_sem, ↓reduceIte, Nat.reduceEqDiff, Nat.reduceMul, Nat.reduceAdd, Nat.reduceDiv, Nat.reduceBEq, Nat.reduceLeDiff, Int.reduceToNat, Int.reduceNe, Int.reduceEq, Int.reduceLT, Int.reduceLE, Int.reduceBEq, Int.reduceBNe, ne_eq, not_true_eq_false, not_false_eq_true, decide_true, decide_false, List.length_map]
    refine branch_mk (fun hb => ?_) (fun hb => ?_)
    · have hb2 := (inF_not _ _ _).1 hb
      simp -implicitDefEqProofs (disch := omega) only [go_sem, ↓reduceIte, Nat.reduceEqDiff, Nat.reduceMul, Nat.reduceAdd, Nat.reduceDiv, Nat.reduceBEq, Nat.reduceLeDiff, Int.reduceToNat, Int.reduceNe, Int.reduceEq, Int.reduceLT, Int.reduceLE, Int.reduceBEq, Int.reduceBNe, ne_eq, not_true_eq_false, not_false_eq_true, decide_true, decide_false, List.length_map, Try.results43]
      rw [decide_eq_true (p := badF h l i) (.inr (.inl hb2))]
    · have hb2 := (inF_iff _ _ _).1 (by simpa using hb)
      simp -implicitDefEqProofs (disch := omega) only [go_sem, ↓reduceIte, Nat.reduceEqDiff, Nat.reduceMul, Nat.reduceAdd, Nat.reduceDiv, Nat.reduceBEq, Nat.reduceLeDiff, Int.reduceToNat, Int.reduceNe, Int.reduceEq, Int.reduceLT, Int.reduceLE, Int.reduceBEq, Int.reduceBNe, ne_eq, not_true_eq_false, not_false_eq_true, decide_true, decide_false, List.length_map, ev1]
      repeat' (first | ((with_reducible refine branch_mk (fun hb => ?_) (fun hb => ?_)) <;> simp -implicitDefEqProofs (disch := omega) only [go_sem, ↓reduceIte, Nat.reduceEqDiff, Nat.reduceMul, Nat.reduceAdd, Nat.reduceDiv, Nat.reduceBEq, Nat.reduceLeDiff, Int.reduceToNat, Int.reduceNe, Int.reduceEq, Int.reduceLT, Int.reduceLE, Int.reduceBEq, Int.reduceBNe, ne_eq, not_true_eq_false, not_false_eq_true, decide_true, decide_false, List.length_map, ev1, Try.results43, hb]))
      all_goals first
        | (rw [decide_eq_true (p := badF h l i) (by unfold badF; omega)]; done)
        | (rw [decide_eq_false (p := badF h l i) (by unfold badF; omega)]; done)
        | (by_cases hz : gd h (gd l i).2.toNat = -1
           · rw [decide_eq_true (p := badF h l i) (by unfold badF; omega)]; simp [hz]
           · rw [decide_eq_false (p := badF h l i) (by unfold badF; omega)]; simp [hz])

theorem first_ev (h : List Int) (l : List (Int × Int)) (hl : l.length ≤ 1000000) (hh : 1 ≤ h.length ∧ h.length ≤ 30) : Ev Try.prog 42 [HL l, .clo 43 [.pt (SL h) 0, .pt (HL l) 0]] (I (blameN h l 0 l.length)) := by
  refine ev_of Try.func42 rfl (by kernel_rfl) mo (Nat.le_of_ble_eq_true rfl) ?_
  simp -implicitDefEqProofs (disch := omega) only [go_sem, ↓reduceIte, Nat.reduceEqDiff, Nat.reduceMul, Nat.reduceAdd, Nat.reduceDiv, Nat.reduceBEq, Nat.reduceLeDiff, Int.reduceToNat, Int.reduceNe, Int.reduceEq, Int.reduceLT, Int.reduceLE, Int.reduceBEq, Int.reduceBNe, ne_eq, not_true_eq_false, not_false_eq_true, decide_true, decide_false, List.length_map, Try.ntmps42]
  refine loopC_mk (fun n E σ => ∃ i : Nat, i + n = l.length ∧ E 1 = .clo 43 [.pt (SL h) 0, .pt (HL l) 0] ∧ E 7 = HL l ∧ E 8 = I l.length ∧ E 9 = I i ∧ blameN h l 0 l.length = blameN h l i n ∧ ∀ j, j < i → ¬ badF h l j) l.length ⟨0, by omega, ?_⟩ ?_
  · simp -implicitDefEqProofs (disch := omega) only [go_sem, ↓reduceIte, Nat.reduceEqDiff, Nat.reduceMul, Nat.reduceAdd, Nat.reduceDiv, Nat.reduceBEq, Nat.reduceLeDiff, Int.reduceToNat, Int.reduceNe, Int.reduceEq, Int.reduceLT, Int.reduceLE, Int.reduceBEq, Int.reduceBNe, ne_eq, not_true_eq_false, not_false_eq_true, decide_true, decide_false, List.length_map]
    simp
  · rintro n E σ ⟨i, hi, h1, h7, h8, h9, hres, hgood⟩
    simp -implicitDefEqProofs (disch := omega) only [go_sem, ↓reduceIte, Nat.reduceEqDiff, Nat.reduceMul, Nat.reduceAdd, Nat.reduceDiv, Nat.reduceBEq, Nat.reduceLeDiff, Int.reduceToNat, Int.reduceNe, Int.reduceEq, Int.reduceLT, Int.reduceLE, Int.reduceBEq, Int.reduceBNe, ne_eq, not_true_eq_false, not_false_eq_true, decide_true, decide_false, List.length_map, h1, h7, h8, h9]
    refine branch_mk (fun hc => ?_) (fun hc => ?_)
    · obtain ⟨m, rfl⟩ : ∃ m, n = m + 1 := ⟨n - 1, by omega⟩
      simp -implicitDefEqProofs (disch := omega) only [go_sem, ↓reduceIte, Nat.reduceEqDiff, Nat.reduceMul, Nat.reduceAdd, Nat.reduceDiv, Nat.reduceBEq, Nat.reduceLeDiff, Int.reduceToNat, Int.reduceNe, Int.reduceEq, Int.reduceLT, Int.reduceLE, Int.reduceBEq, Int.reduceBNe, ne_eq, not_true_eq_false, not_false_eq_true, decide_true, decide_false, List.length_map, h1, h7, h8, h9]
      refine callC_at (blame1_ev h l i (by omega) hl hh fun hp => ?_) ?_
      · have := hgood (i - 1) (by omega)
        unfold badF at this; omega
      · simp -implicitDefEqProofs (disch := omega) only [go_sem, ↓reduceIte, Nat.reduceEqDiff, Nat.reduceMul, Nat.reduceAdd, Nat.reduceDiv, Nat.reduceBEq, Nat.reduceLeDiff, Int.reduceToNat, Int.reduceNe, Int.reduceEq, Int.reduceLT, Int.reduceLE, Int.reduceBEq, Int.reduceBNe, ne_eq, not_true_eq_false, not_false_eq_true, decide_true, decide_false, List.length_map, h1, h7, h8, h9]
        refine branch_mk (fun hb => ?_) (fun hb => ?_)
        · simp -implicitDefEqProofs (disch := omega) only [go_sem, ↓reduceIte, Nat.reduceEqDiff, Nat.reduceMul, Nat.reduceAdd, Nat.reduceDiv, Nat.reduceBEq, Nat.reduceLeDiff, Int.reduceToNat, Int.reduceNe, Int.reduceEq, Int.reduceLT, Int.reduceLE, Int.reduceBEq, Int.reduceBNe, ne_eq, not_true_eq_false, not_false_eq_true, decide_true, decide_false, List.length_map, h1, h7, h8, h9, Try.results42]
          rw [hres, blameN, if_pos (by simpa using hb)]
        · simp -implicitDefEqProofs (disch := omega) only [go_sem, ↓reduceIte, Nat.reduceEqDiff, Nat.reduceMul, Nat.reduceAdd, Nat.reduceDiv, Nat.reduceBEq, Nat.reduceLeDiff, Int.reduceToNat, Int.reduceNe, Int.reduceEq, Int.reduceLT, Int.reduceLE, Int.reduceBEq, Int.reduceBNe, ne_eq, not_true_eq_false, not_false_eq_true, decide_true, decide_false, List.length_map, h1, h7, h8, h9]
          have hb : ¬ badF h l i := by simpa using hb
          refine againQ_mk m (by omega) ⟨i + 1, by omega, ?_⟩
          simp -implicitDefEqProofs (disch := omega) only [go_sem, ↓reduceIte, Nat.reduceEqDiff, Nat.reduceMul, Nat.reduceAdd, Nat.reduceDiv, Nat.reduceBEq, Nat.reduceLeDiff, Int.reduceToNat, Int.reduceNe, Int.reduceEq, Int.reduceLT, Int.reduceLE, Int.reduceBEq, Int.reduceBNe, ne_eq, not_true_eq_false, not_false_eq_true, decide_true, decide_false, List.length_map, h1, h7, h8, h9]
          refine ⟨by simp, by rw [hres, blameN, if_neg hb], fun j hj => ?_⟩
          by_cases e : j = i
          · subst e; exact hb
          · exact hgood j (by omega)
    · simp -implicitDefEqProofs (disch := omega) only [go_sem, ↓reduceIte, Nat.reduceEqDiff, Nat.reduceMul, Nat.reduceAdd, Nat.reduceDiv, Nat.reduceBEq, Nat.reduceLeDiff, Int.reduceToNat, Int.reduceNe, Int.reduceEq, Int.reduceLT, Int.reduceLE, Int.reduceBEq, Int.reduceBNe, ne_eq, not_true_eq_false, not_false_eq_true, decide_true, decide_false, List.length_map, Try.results42]
      have : n = 0 := by omega
      subst this; rw [hres]; rfl

theorem blame_ev (h : List Int) (l : List (Int × Int)) (hh : h.length ≤ 9223372036854775807) (hl : l.length ≤ 1000000) : Ev Try.prog 26 [SL h, HL l] (I (blameF h l)) := by
  refine ev_of Try.func26 rfl (by kernel_rfl) mo (Nat.le_of_ble_eq_true rfl) ?_
  simp -implicitDefEqProofs (disch := omega) only [go_sem, ↓reduceIte, Nat.reduceEqDiff, Nat.reduceMul, Nat.reduceAdd, Nat.reduceDiv, Nat.reduceBEq, Nat.reduceLeDiff, Int.reduceToNat, Int.reduceNe, Int.reduceEq, Int.reduceLT, Int.reduceLE, Int.reduceBEq, Int.reduceBNe, ne_eq, not_true_eq_false, not_false_eq_true, decide_true, decide_false, List.length_map, Try.ntmps26]
  refine callC_at (areHolders_ev h hh) ?_
  simp -implicitDefEqProofs (disch := omega) only [go_sem, ↓reduceIte, Nat.reduceEqDiff, Nat.reduceMul, Nat.reduceAdd, Nat.reduceDiv, Nat.reduceBEq, Nat.reduceLeDiff, Int.reduceToNat, Int.reduceNe, Int.reduceEq, Int.reduceLT, Int.reduceLE, Int.reduceBEq, Int.reduceBNe, ne_eq, not_true_eq_false, not_false_eq_true, decide_true, decide_false, List.length_map]
  repeat' (first | ((with_reducible refine branch_mk (fun hb => ?_) (fun hb => ?_)) <;> simp -implicitDefEqProofs (disch := omega) only [go_sem, ↓reduceIte, Nat.reduceEqDiff, Nat.reduceMul, Nat.reduceAdd, Nat.reduceDiv, Nat.reduceBEq, Nat.reduceLeDiff, Int.reduceToNat, Int.reduceNe, Int.reduceEq, Int.reduceLT, Int.reduceLE, Int.reduceBEq, Int.reduceBNe, ne_eq, not_true_eq_false, not_false_eq_true, decide_true, decide_false, List.length_map, Try.results26, hb]))
  · simp [blameF, hb]
  · simp [blameF]; intro _ e; omega
  · rename_i hb1
    have hho : holdersF h = true := by simpa using hb1
    rw [blameF, if_pos ⟨hho, by omega⟩]
    refine callC_at (first_ev h l hl (holdersF_pos hho)) ?_ (h1 := .inr rfl)
    simp -implicitDefEqProofs (disch := omega) only [go_sem, ↓reduceIte, Nat.reduceEqDiff, Nat.reduceMul, Nat.reduceAdd, Nat.reduceDiv, Nat.reduceBEq, Nat.reduceLeDiff, Int.reduceToNat, Int.reduceNe, Int.reduceEq, Int.reduceLT, Int.reduceLE, Int.reduceBEq, Int.reduceBNe, ne_eq, not_true_eq_false, not_false_eq_true, decide_true, decide_false, List.length_map, Try.results26]
theorem right_ev (h : List Int) (l : List (Int × Int)) (hh : h.length ≤ 9223372036854775807) (hl : l.length ≤ 1000000) : Ev Try.prog 24 [SL h, HL l] (B (blameF h l == -1)) := by
  refine ev_of Try.func24 rfl (by kernel_rfl) mo (Nat.le_of_ble_eq_true rfl) ?_
  simp -implicitDefEqProofs (disch := omega) only [go_sem, ↓reduceIte, Nat.reduceEqDiff, Nat.reduceMul, Nat.reduceAdd, Nat.reduceDiv, Nat.reduceBEq, Nat.reduceLeDiff, Int.reduceToNat, Int.reduceNe, Int.reduceEq, Int.reduceLT, Int.reduceLE, Int.reduceBEq, Int.reduceBNe, ne_eq, not_true_eq_false, not_false_eq_true, decide_true, decide_false, List.length_map, Try.ntmps24]
  refine callC_at (blame_ev h l hh hl) ?_
  simp -implicitDefEqProofs (disch := omega) only [go_sem, ↓reduceIte, Nat.reduceEqDiff, Nat.reduceMul, Nat.reduceAdd, Nat.reduceDiv, Nat.reduceBEq, Nat.reduceLeDiff, Int.reduceToNat, Int.reduceNe, Int.reduceEq, Int.reduceLT, Int.reduceLE, Int.reduceBEq, Int.reduceBNe, ne_eq, not_true_eq_false, not_false_eq_true, decide_true, decide_false, List.length_map, Try.results24]
end Go.Proofs.Ytmiahmpobpokmaa

/- The contracts of chapter 24: the chapter's example. -/
set_option maxRecDepth 100000
set_option linter.unusedSimpArgs false
namespace Go.Proofs.Ytmiahmpobpokmaa
open Go.Vai Go Go.Proofs

def exH : List Int := [0, 1, 1, 2]
def exK : List Int := [1, 3, 3, 0, 2, -1, 1, 1]
theorem example_ev : Ev Try.prog 29 [] (.tup [.new 3 1 (exH.map I), .new 3 1 (exK.map I)]) := by
  refine ev_of Try.func29 rfl (by kernel_rfl) mo (Nat.le_of_ble_eq_true rfl) ?_
  simp -implicitDefEqProofs (disch := omega) only [go_sem, ↓reduceIte, Nat.reduceEqDiff, Nat.reduceMul, Nat.reduceAdd, Nat.reduceDiv, Nat.reduceBEq, Nat.reduceLeDiff, Int.reduceToNat, Int.reduceNe, Int.reduceEq, Int.reduceLT, Int.reduceLE, Int.reduceBEq, Int.reduceBNe, ne_eq, not_true_eq_false, not_false_eq_true, decide_true, decide_false, List.length_map, Try.ntmps29, Try.results29]
  rfl

def goesF (h k : List Int) (c : Int) (l : List (Int × Int)) (e : Int) : Bool := canF h k 3 c && (decide ((pathF h k c).2 = e) && decide ((pathF h k c).1 = l))
theorem goes_ev (h k : List Int) (c : Int) (l : List (Int × Int)) (e : Int) (hh : h.length ≤ 9223372036854775807) (hk : k.length ≤ 9223372036854775807) (hl : l.length ≤ 9223372036854775807) : Ev Try.prog 30 [SL h, SL k, I c, HL l, I e] (B (goesF h k c l e)) := by
  refine ev_of Try.func30 rfl (by kernel_rfl) mo (Nat.le_of_ble_eq_true rfl) ?_
  simp -implicitDefEqProofs (disch := omega) only [go_sem, ↓reduceIte, Nat.reduceEqDiff, Nat.reduceMul, Nat.reduceAdd, Nat.reduceDiv, Nat.reduceBEq, Nat.reduceLeDiff, Int.reduceToNat, Int.reduceNe, Int.reduceEq, Int.reduceLT, Int.reduceLE, Int.reduceBEq, Int.reduceBNe, ne_eq, not_true_eq_false, not_false_eq_true, decide_true, decide_false, List.length_map, Try.ntmps30]
  have hp := path_ev h k 3 c hh hk ⟨by decide, by decide⟩
  by_cases hcan : canF h k 3 c = true
  · rw [pathR, if_pos hcan] at hp
    have hg : goesF h k c l e = (decide ((pathF h k c).2 = e) && decide ((pathF h k c).1 = l)) := by simp [goesF, hcan]
    have hlen := (path_length (h := h) (k := k) (c := c)).2
    have hh := (valid_holders (can_at hcan).1).2.2.2.2
    rw [hg]
    generalize (pathF h k c).2 = x at *
    generalize (pathF h k c).1 = p at *
    refine callC_at hp ?_ (h1 := .inl rfl)
    simp -implicitDefEqProofs (disch := omega) only [go_sem, ↓reduceIte, Nat.reduceEqDiff, Nat.reduceMul, Nat.reduceAdd, Nat.reduceDiv, Nat.reduceBEq, Nat.reduceLeDiff, Int.reduceToNat, Int.reduceNe, Int.reduceEq, Int.reduceLT, Int.reduceLE, Int.reduceBEq, Int.reduceBNe, ne_eq, not_true_eq_false, not_false_eq_true, decide_true, decide_false, List.length_map]
    refine branch_mk (fun hb => ?_) (fun hb => ?_)
    · simp -implicitDefEqProofs (disch := omega) only [go_sem, ↓reduceIte, Nat.reduceEqDiff, Nat.reduceMul, Nat.reduceAdd, Nat.reduceDiv, Nat.reduceBEq, Nat.reduceLeDiff, Int.reduceToNat, Int.reduceNe, Int.reduceEq, Int.reduceLT, Int.reduceLE, Int.reduceBEq, Int.reduceBNe, ne_eq, not_true_eq_false, not_false_eq_true, decide_true, decide_false, List.length_map]
      refine callC_at (same_ev p l (by omega) hl) ?_
      simp -implicitDefEqProofs (disch := omega) only [go_sem, ↓reduceIte, Nat.reduceEqDiff, Nat.reduceMul, Nat.reduceAdd, Nat.reduceDiv, Nat.reduceBEq, Nat.reduceLeDiff, Int.reduceToNat, Int.reduceNe, Int.reduceEq, Int.reduceLT, Int.reduceLE, Int.reduceBEq, Int.reduceBNe, ne_eq, not_true_eq_false, not_false_eq_true, decide_true, decide_false, List.length_map, Try.results30]
      simp [hb]
    · simp -implicitDefEqProofs (disch := omega) only [go_sem, ↓reduceIte, Nat.reduceEqDiff, Nat.reduceMul, Nat.reduceAdd, Nat.reduceDiv, Nat.reduceBEq, Nat.reduceLeDiff, Int.reduceToNat, Int.reduceNe, Int.reduceEq, Int.reduceLT, Int.reduceLE, Int.reduceBEq, Int.reduceBNe, ne_eq, not_true_eq_false, not_false_eq_true, decide_true, decide_false, List.length_map, Try.results30]
      simp [hb]
  · rw [pathR, if_neg hcan] at hp
    refine callC_at hp ?_
    simp -implicitDefEqProofs (disch := omega) only [go_sem, ↓reduceIte, Nat.reduceEqDiff, Nat.reduceMul, Nat.reduceAdd, Nat.reduceDiv, Nat.reduceBEq, Nat.reduceLeDiff, Int.reduceToNat, Int.reduceNe, Int.reduceEq, Int.reduceLT, Int.reduceLE, Int.reduceBEq, Int.reduceBNe, ne_eq, not_true_eq_false, not_false_eq_true, decide_true, decide_false, List.length_map, Try.results30]
    simp [goesF, hcan]

theorem goes_at (h k : List Int) (c : Int) (l : List (Int × Int)) (e : Int) (hh : h.length ≤ 9223372036854775807) (hk : k.length ≤ 9223372036854775807) (hl : l.length ≤ 9223372036854775807) (hg : goesF h k c l e = true) : Ev Try.prog 30 [SL h, SL k, I c, HL l, I e] (B true) := hg ▸ goes_ev h k c l e hh hk hl
theorem ev_to {f : FuncId} {as' : List AV} {r r' : AV} (h : Ev Try.prog f as' r) (e : r = r') : Ev Try.prog f as' r' := e ▸ h
def exD : List Int := [1, 3, -1, 0, 2, -1, 1, 1]
theorem sane_ev : Ev Try.prog 11 [] (B true) := by
  refine ev_of Try.func11 rfl (by kernel_rfl) mo (Nat.le_of_ble_eq_true rfl) ?_
  simp -implicitDefEqProofs (disch := omega) only [go_sem, ↓reduceIte, Nat.reduceEqDiff, Nat.reduceMul, Nat.reduceAdd, Nat.reduceDiv, Nat.reduceBEq, Nat.reduceLeDiff, Int.reduceToNat, Int.reduceNe, Int.reduceEq, Int.reduceLT, Int.reduceLE, Int.reduceBEq, Int.reduceBNe, ne_eq, not_true_eq_false, not_false_eq_true, decide_true, decide_false, List.length_map, Try.ntmps11]
  refine callC_at example_ev ?_ (h1 := .inl rfl)
  simp -implicitDefEqProofs (disch := omega) only [go_sem, ↓reduceIte, Nat.reduceEqDiff, Nat.reduceMul, Nat.reduceAdd, Nat.reduceDiv, Nat.reduceBEq, Nat.reduceLeDiff, Int.reduceToNat, Int.reduceNe, Int.reduceEq, Int.reduceLT, Int.reduceLE, Int.reduceBEq, Int.reduceBNe, ne_eq, not_true_eq_false, not_false_eq_true, decide_true, decide_false, List.length_map]
  have r4 : R64 3 := ⟨by decide, by decide⟩
  have p1 := path_ev exH exK 3 5 (by decide) (by decide) r4
  rw [show pathR exH exK 3 5 = .tup [.new 40 2 [], I 0, Er 240] from by kernel_rfl] at p1
  refine callC_at p1 ?_
  simp -implicitDefEqProofs (disch := omega) only [go_sem, ↓reduceIte, Nat.reduceEqDiff, Nat.reduceMul, Nat.reduceAdd, Nat.reduceDiv, Nat.reduceBEq, Nat.reduceLeDiff, Int.reduceToNat, Int.reduceNe, Int.reduceEq, Int.reduceLT, Int.reduceLE, Int.reduceBEq, Int.reduceBNe, ne_eq, not_true_eq_false, not_false_eq_true, decide_true, decide_false, List.length_map]
  have p2 := learn_ev exH exK 3 3 (by decide) (by decide) r4
  rw [show learnR exH exK 3 3 = .tup [.new 3 1 ([3, 3, 3, 3, 2, -1, 1, 1].map I), Er 0] from by kernel_rfl] at p2
  refine callC_at p2 ?_
  simp -implicitDefEqProofs (disch := omega) only [go_sem, ↓reduceIte, Nat.reduceEqDiff, Nat.reduceMul, Nat.reduceAdd, Nat.reduceDiv, Nat.reduceBEq, Nat.reduceLeDiff, Int.reduceToNat, Int.reduceNe, Int.reduceEq, Int.reduceLT, Int.reduceLE, Int.reduceBEq, Int.reduceBNe, ne_eq, not_true_eq_false, not_false_eq_true, decide_true, decide_false, List.length_map]
  have p3 := Decide_ev exH exK 3 0 0 (by decide) (by decide) r4
  rw [show decR exH exK 3 0 0 = .tup [I 1, I 1, I 0, Er 0] from by kernel_rfl] at p3
  refine callC_at p3 ?_
  simp -implicitDefEqProofs (disch := omega) only [go_sem, ↓reduceIte, Nat.reduceEqDiff, Nat.reduceMul, Nat.reduceAdd, Nat.reduceDiv, Nat.reduceBEq, Nat.reduceLeDiff, Int.reduceToNat, Int.reduceNe, Int.reduceEq, Int.reduceLT, Int.reduceLE, Int.reduceBEq, Int.reduceBNe, ne_eq, not_true_eq_false, not_false_eq_true, decide_true, decide_false, List.length_map]
  refine callC_at (goes_at exH exK 3 [(3, 0), (0, 1), (1, 3), (2, 3)] 1 (by decide) (by decide) (by decide) (by kernel_rfl)) ?_
  simp -implicitDefEqProofs (disch := omega) only [go_sem, ↓reduceIte, Nat.reduceEqDiff, Nat.reduceMul, Nat.reduceAdd, Nat.reduceDiv, Nat.reduceBEq, Nat.reduceLeDiff, Int.reduceToNat, Int.reduceNe, Int.reduceEq, Int.reduceLT, Int.reduceLE, Int.reduceBEq, Int.reduceBNe, ne_eq, not_true_eq_false, not_false_eq_true, decide_true, decide_false, List.length_map]
  refine callC_at (goes_at exH exK 4 [(4, 2), (1, 3), (2, 3)] 1 (by decide) (by decide) (by decide) (by kernel_rfl)) ?_
  simp -implicitDefEqProofs (disch := omega) only [go_sem, ↓reduceIte, Nat.reduceEqDiff, Nat.reduceMul, Nat.reduceAdd, Nat.reduceDiv, Nat.reduceBEq, Nat.reduceLeDiff, Int.reduceToNat, Int.reduceNe, Int.reduceEq, Int.reduceLT, Int.reduceLE, Int.reduceBEq, Int.reduceBNe, ne_eq, not_true_eq_false, not_false_eq_true, decide_true, decide_false, List.length_map]
  refine callC_at (goes_at exH exK 2 [(2, 3)] 1 (by decide) (by decide) (by decide) (by kernel_rfl)) ?_
  simp -implicitDefEqProofs (disch := omega) only [go_sem, ↓reduceIte, Nat.reduceEqDiff, Nat.reduceMul, Nat.reduceAdd, Nat.reduceDiv, Nat.reduceBEq, Nat.reduceLeDiff, Int.reduceToNat, Int.reduceNe, Int.reduceEq, Int.reduceLT, Int.reduceLE, Int.reduceBEq, Int.reduceBNe, ne_eq, not_true_eq_false, not_false_eq_true, decide_true, decide_false, List.length_map]
  refine callC_at (goes_at exH exK 1 [(1, 3), (2, 3)] 1 (by decide) (by decide) (by decide) (by kernel_rfl)) ?_
  simp -implicitDefEqProofs (disch := omega) only [go_sem, ↓reduceIte, Nat.reduceEqDiff, Nat.reduceMul, Nat.reduceAdd, Nat.reduceDiv, Nat.reduceBEq, Nat.reduceLeDiff, Int.reduceToNat, Int.reduceNe, Int.reduceEq, Int.reduceLT, Int.reduceLE, Int.reduceBEq, Int.reduceBNe, ne_eq, not_true_eq_false, not_false_eq_true, decide_true, decide_false, List.length_map]
  refine callC_at (goes_at exH exD 3 [(3, 0), (0, 1), (1, 3)] 3 (by decide) (by decide) (by decide) (by kernel_rfl)) ?_
  simp -implicitDefEqProofs (disch := omega) only [go_sem, ↓reduceIte, Nat.reduceEqDiff, Nat.reduceMul, Nat.reduceAdd, Nat.reduceDiv, Nat.reduceBEq, Nat.reduceLeDiff, Int.reduceToNat, Int.reduceNe, Int.reduceEq, Int.reduceLT, Int.reduceLE, Int.reduceBEq, Int.reduceBNe, ne_eq, not_true_eq_false, not_false_eq_true, decide_true, decide_false, List.length_map]
  have p4 := ints_ev [3, 3, 3, 3, 2, -1, 1, 1] [3, 3, 3, 3, 2, -1, 1, 1] (by decide) (by decide)
  rw [show (([3, 3, 3, 3, 2, -1, 1, 1] : List Int) == [3, 3, 3, 3, 2, -1, 1, 1]) = true from by kernel_rfl] at p4
  refine callC_at p4 ?_
  simp -implicitDefEqProofs (disch := omega) only [go_sem, ↓reduceIte, Nat.reduceEqDiff, Nat.reduceMul, Nat.reduceAdd, Nat.reduceDiv, Nat.reduceBEq, Nat.reduceLeDiff, Int.reduceToNat, Int.reduceNe, Int.reduceEq, Int.reduceLT, Int.reduceLE, Int.reduceBEq, Int.reduceBNe, ne_eq, not_true_eq_false, not_false_eq_true, decide_true, decide_false, List.length_map]
  refine callC_at (ev_to (valid_ev exH exK 3 (by decide) (by decide) r4) (r' := B true) (by kernel_rfl)) ?_
  simp -implicitDefEqProofs (disch := omega) only [go_sem, ↓reduceIte, Nat.reduceEqDiff, Nat.reduceMul, Nat.reduceAdd, Nat.reduceDiv, Nat.reduceBEq, Nat.reduceLeDiff, Int.reduceToNat, Int.reduceNe, Int.reduceEq, Int.reduceLT, Int.reduceLE, Int.reduceBEq, Int.reduceBNe, ne_eq, not_true_eq_false, not_false_eq_true, decide_true, decide_false, List.length_map]
  refine callC_at (ev_to (valid_ev exH [0, 3, 3, 0, 2, -1, 1, 1] 3 (by decide) (by decide) r4) (r' := B false) (by kernel_rfl)) ?_
  simp -implicitDefEqProofs (disch := omega) only [go_sem, ↓reduceIte, Nat.reduceEqDiff, Nat.reduceMul, Nat.reduceAdd, Nat.reduceDiv, Nat.reduceBEq, Nat.reduceLeDiff, Int.reduceToNat, Int.reduceNe, Int.reduceEq, Int.reduceLT, Int.reduceLE, Int.reduceBEq, Int.reduceBNe, ne_eq, not_true_eq_false, not_false_eq_true, decide_true, decide_false, List.length_map]
  refine callC_at (ev_to (valid_ev exH exK 2 (by decide) (by decide) ⟨by decide, by decide⟩) (r' := B false) (by kernel_rfl)) ?_
  simp -implicitDefEqProofs (disch := omega) only [go_sem, ↓reduceIte, Nat.reduceEqDiff, Nat.reduceMul, Nat.reduceAdd, Nat.reduceDiv, Nat.reduceBEq, Nat.reduceLeDiff, Int.reduceToNat, Int.reduceNe, Int.reduceEq, Int.reduceLT, Int.reduceLE, Int.reduceBEq, Int.reduceBNe, ne_eq, not_true_eq_false, not_false_eq_true, decide_true, decide_false, List.length_map]
  refine callC_at (ev_to (right_ev exH [(3, 0), (0, 1), (1, 3), (2, 3)] (by decide) (by decide)) (r' := B true) (by kernel_rfl)) ?_
  simp -implicitDefEqProofs (disch := omega) only [go_sem, ↓reduceIte, Nat.reduceEqDiff, Nat.reduceMul, Nat.reduceAdd, Nat.reduceDiv, Nat.reduceBEq, Nat.reduceLeDiff, Int.reduceToNat, Int.reduceNe, Int.reduceEq, Int.reduceLT, Int.reduceLE, Int.reduceBEq, Int.reduceBNe, ne_eq, not_true_eq_false, not_false_eq_true, decide_true, decide_false, List.length_map]
  refine callC_at (ev_to (blame_ev exH [(3, 0), (1, 3), (2, 3)] (by decide) (by decide)) (r' := I 1) (by kernel_rfl)) ?_
  simp -implicitDefEqProofs (disch := omega) only [go_sem, ↓reduceIte, Nat.reduceEqDiff, Nat.reduceMul, Nat.reduceAdd, Nat.reduceDiv, Nat.reduceBEq, Nat.reduceLeDiff, Int.reduceToNat, Int.reduceNe, Int.reduceEq, Int.reduceLT, Int.reduceLE, Int.reduceBEq, Int.reduceBNe, ne_eq, not_true_eq_false, not_false_eq_true, decide_true, decide_false, List.length_map]
  refine callC_at (Ev.asIf (ev_to (blame_ev exH [] (by decide) (by decide)) (r' := I (-2)) (by kernel_rfl)) ⟨asIf_refl _, asIf_nil _, trivial⟩) ?_
  simp -implicitDefEqProofs (disch := omega) only [go_sem, ↓reduceIte, Nat.reduceEqDiff, Nat.reduceMul, Nat.reduceAdd, Nat.reduceDiv, Nat.reduceBEq, Nat.reduceLeDiff, Int.reduceToNat, Int.reduceNe, Int.reduceEq, Int.reduceLT, Int.reduceLE, Int.reduceBEq, Int.reduceBNe, ne_eq, not_true_eq_false, not_false_eq_true, decide_true, decide_false, List.length_map, Try.results11]
end Go.Proofs.Ytmiahmpobpokmaa

/- Chapter 24: calls end. -/
set_option maxRecDepth 100000
set_option linter.unusedSimpArgs false
namespace Go.Proofs.Ytmiahmpobpokmaa
open Go.Vai Go Go.Proofs

/-- What is known of a path. -/
structure Path24 (h k : List Int) (l d : Int) (p : List (Int × Int)) (e : Int) : Prop where
  ok : PathOK h k d (-1) p e
  here : ∀ x ∈ p, 0 ≤ x.1 ∧ x.1 ≤ 7 ∧ 0 ≤ gd k x.1.toNat ∧ 0 ≤ x.2 ∧ x.2 ≤ (h.length : Int) - 1
  short : (p.length : Int) ≤ l + 2
  once : ∀ m i, m < i → i < p.length → (gd p m).1 ≠ (gd p i).1
  least : (h.length : Int) - 1 - l ≤ gd k d.toNat
  known : 0 ≤ gd k d.toNat
theorem path24 {h k : List Int} {l d : Int} (hcan : canF h k l d = true) : Path24 h k l d (pathF h k d).1 (pathF h k d).2 :=
  ⟨path_ok hcan, path_in hcan, path_short hcan, fun m i hm hi => (path_ok hcan).once hcan (path_in hcan) m i hm hi, (path_least hcan).1, (path_least hcan).2⟩
theorem PathOK.knows {h k : List Int} {c u : Int} {p : List (Int × Int)} {e : Int} (hp : PathOK h k c u p e) (i : Nat) (hi : i < p.length) : gd k (gd p i).1.toNat ≤ (gd p i).2 := by
  cases i with
  | zero => rw [hp.zero]; simp only; omega
  | succ i => have := (hp.step i hi).2.2; omega
theorem PathOK.last {h k : List Int} {c u : Int} {p : List (Int × Int)} {e : Int} (hp : PathOK h k c u p e) (i : Nat) (hi : i < p.length) : (gd p i).2 ≤ (gd p (p.length - 1)).2 := by
  have := hp.asc' i (p.length - 1 - i) (by omega)
  rwa [show i + (p.length - 1 - i) = p.length - 1 from by omega] at this
theorem can_iff {h k : List Int} {l d : Int} (hv : validF h k l = true) (hd : 0 ≤ d ∧ d < 8) : canF h k l d = decide (0 ≤ gd k d.toNat) := by
  simp only [canF, hv, Bool.true_and]
  rw [decide_eq_true (p := 0 ≤ d ∧ d ≤ 7) (by omega), Bool.true_and]

theorem ends_ev (x y : List Int) (lag c : Int) (hx : x.length ≤ 9223372036854775807) (hy : y.length ≤ 9223372036854775807) (hxr : ∀ a ∈ x, R64 a) (hyr : ∀ a ∈ y, R64 a) (hl : R64 lag) (hc : R64 c) : Ev Try.prog 4 [SL x, SL y, I lag, I c] (B true) := by
  refine ev_of Try.func4 rfl (by kernel_rfl) mo (Nat.le_of_ble_eq_true rfl) ?_
  simp -implicitDefEqProofs (disch := omega) only [go_sem, ↓reduceIte, Nat.reduceEqDiff, Nat.reduceMul, Nat.reduceAdd, Nat.reduceDiv, Nat.reduceBEq, Nat.reduceLeDiff, Int.reduceToNat, Int.reduceNe, Int.reduceEq, Int.reduceLT, Int.reduceLE, Int.reduceBEq, Int.reduceBNe, ne_eq, not_true_eq_false, not_false_eq_true, decide_true, decide_false, Int.cast_ofNat_Int, beq_self_eq_true, eq_self, Bool.true_and, Bool.and_true, Bool.false_and, Bool.and_false, Bool.not_true, Bool.not_false, List.length_map, Try.ntmps4]
  refine callC_at sane_ev ?_
  simp -implicitDefEqProofs (disch := omega) only [go_sem, ↓reduceIte, Nat.reduceEqDiff, Nat.reduceMul, Nat.reduceAdd, Nat.reduceDiv, Nat.reduceBEq, Nat.reduceLeDiff, Int.reduceToNat, Int.reduceNe, Int.reduceEq, Int.reduceLT, Int.reduceLE, Int.reduceBEq, Int.reduceBNe, ne_eq, not_true_eq_false, not_false_eq_true, decide_true, decide_false, Int.cast_ofNat_Int, beq_self_eq_true, eq_self, Bool.true_and, Bool.and_true, Bool.false_and, Bool.and_false, Bool.not_true, Bool.not_false, List.length_map]
  refine callC_at (made_ev x y lag hx hy hxr hyr hl) ?_
  have hv := made_valid x y lag
  generalize knownF (madeH x) (madeL lag) y = k at *
  generalize madeH x = h at *
  generalize madeL lag = l at *
  simp -implicitDefEqProofs (disch := omega) only [go_sem, ↓reduceIte, Nat.reduceEqDiff, Nat.reduceMul, Nat.reduceAdd, Nat.reduceDiv, Nat.reduceBEq, Nat.reduceLeDiff, Int.reduceToNat, Int.reduceNe, Int.reduceEq, Int.reduceLT, Int.reduceLE, Int.reduceBEq, Int.reduceBNe, ne_eq, not_true_eq_false, not_false_eq_true, decide_true, decide_false, Int.cast_ofNat_Int, beq_self_eq_true, eq_self, Bool.true_and, Bool.and_true, Bool.false_and, Bool.and_false, Bool.not_true, Bool.not_false, List.length_map]
  refine callC_at (pick_ev' c 8 hc (by omega)) ?_
  have hd := pickF_in (c := c) (n := 8) (by omega)
  generalize pickF c 8 = d at *
  simp -implicitDefEqProofs (disch := omega) only [go_sem, ↓reduceIte, Nat.reduceEqDiff, Nat.reduceMul, Nat.reduceAdd, Nat.reduceDiv, Nat.reduceBEq, Nat.reduceLeDiff, Int.reduceToNat, Int.reduceNe, Int.reduceEq, Int.reduceLT, Int.reduceLE, Int.reduceBEq, Int.reduceBNe, ne_eq, not_true_eq_false, not_false_eq_true, decide_true, decide_false, Int.cast_ofNat_Int, beq_self_eq_true, eq_self, Bool.true_and, Bool.and_true, Bool.false_and, Bool.and_false, Bool.not_true, Bool.not_false, List.length_map]
  obtain ⟨g1, g2, g3, g4, g5, g6⟩ := valid_holders hv
  have hp := path_ev h k l d (by omega) (by omega) ⟨by omega, by omega⟩
  have hval := valid_ev h k l (by omega) (by omega) ⟨by omega, by omega⟩
  rw [hv] at hval
  have hci := can_iff hv hd
  by_cases hcan : canF h k l d = true
  · rw [pathR, if_pos hcan] at hp
    have hP := path24 hcan
    rw [hci, decide_eq_true_eq] at hcan
    clear hci
    generalize (pathF h k d).2 = e at hp hP
    generalize (pathF h k d).1 = p at hp hP
    have hpos := hP.ok.pos
    have hzero := hP.ok.zero
    have hshort := hP.short
    have hknown := hP.known
    have hfin : 1 ≤ e ∧ e ≤ 3 := by have := hP.ok.fin; omega
    have z1 : (gd p 0).1 = d := by rw [hzero]
    have z2 : (gd p 0).2 = gd k d.toNat := by rw [hzero]; simp only; omega
    refine callC_at hp ?_ (h1 := .inr (by simp only [go_sem, AV.flat, AV.flatL, Bool.and_self]))
    simp -implicitDefEqProofs (disch := omega) only [go_sem, ↓reduceIte, Nat.reduceEqDiff, Nat.reduceMul, Nat.reduceAdd, Nat.reduceDiv, Nat.reduceBEq, Nat.reduceLeDiff, Int.reduceToNat, Int.reduceNe, Int.reduceEq, Int.reduceLT, Int.reduceLE, Int.reduceBEq, Int.reduceBNe, ne_eq, not_true_eq_false, not_false_eq_true, decide_true, decide_false, Int.cast_ofNat_Int, beq_self_eq_true, eq_self, Bool.true_and, Bool.and_true, Bool.false_and, Bool.and_false, Bool.not_true, Bool.not_false, List.length_map]
    refine callC_at hval ?_
    simp -implicitDefEqProofs (disch := omega) only [go_sem, ↓reduceIte, Nat.reduceEqDiff, Nat.reduceMul, Nat.reduceAdd, Nat.reduceDiv, Nat.reduceBEq, Nat.reduceLeDiff, Int.reduceToNat, Int.reduceNe, Int.reduceEq, Int.reduceLT, Int.reduceLE, Int.reduceBEq, Int.reduceBNe, ne_eq, not_true_eq_false, not_false_eq_true, decide_true, decide_false, Int.cast_ofNat_Int, beq_self_eq_true, eq_self, Bool.true_and, Bool.and_true, Bool.false_and, Bool.and_false, Bool.not_true, Bool.not_false, List.length_map]
    simp -implicitDefEqProofs (disch := omega) only [go_sem, ↓reduceIte, Nat.reduceEqDiff, Nat.reduceMul, Nat.reduceAdd, Nat.reduceDiv, Nat.reduceBEq, Nat.reduceLeDiff, Int.reduceToNat, Int.reduceNe, Int.reduceEq, Int.reduceLT, Int.reduceLE, Int.reduceBEq, Int.reduceBNe, ne_eq, not_true_eq_false, not_false_eq_true, decide_true, decide_false, Int.cast_ofNat_Int, beq_self_eq_true, eq_self, Bool.true_and, Bool.and_true, Bool.false_and, Bool.and_false, Bool.not_true, Bool.not_false, List.length_map, hcan]
    repeat' (first | ((with_reducible refine branch_mk (fun hb => ?_) (fun hb => ?_)) <;> simp -implicitDefEqProofs (disch := omega) only [go_sem, ↓reduceIte, Nat.reduceEqDiff, Nat.reduceMul, Nat.reduceAdd, Nat.reduceDiv, Nat.reduceBEq, Nat.reduceLeDiff, Int.reduceToNat, Int.reduceNe, Int.reduceEq, Int.reduceLT, Int.reduceLE, Int.reduceBEq, Int.reduceBNe, ne_eq, not_true_eq_false, not_false_eq_true, decide_true, decide_false, Int.cast_ofNat_Int, beq_self_eq_true, eq_self, Bool.true_and, Bool.and_true, Bool.false_and, Bool.and_false, Bool.not_true, Bool.not_false, List.length_map, z1, z2, Try.results4, hb]))
    iterate 4 (· exfalso; omega)
    refine loopC_mk (fun n E σ => ∃ i : Nat, i + n = p.length ∧ E 9 = B true ∧ E 14 = .own 10486352 2 0 p.length ∧ E 17 = I i ∧ σ 10486352 = some ⟨40, 2, p.map HP⟩) p.length ⟨0, by omega, ?_⟩ ?_
    · simp -implicitDefEqProofs (disch := omega) only [go_sem, ↓reduceIte, Nat.reduceEqDiff, Nat.reduceMul, Nat.reduceAdd, Nat.reduceDiv, Nat.reduceBEq, Nat.reduceLeDiff, Int.reduceToNat, Int.reduceNe, Int.reduceEq, Int.reduceLT, Int.reduceLE, Int.reduceBEq, Int.reduceBNe, ne_eq, not_true_eq_false, not_false_eq_true, decide_true, decide_false, Int.cast_ofNat_Int, beq_self_eq_true, eq_self, Bool.true_and, Bool.and_true, Bool.false_and, Bool.and_false, Bool.not_true, Bool.not_false, List.length_map]
    · rintro n E σ ⟨i, hi, h9, h14, h17, hs⟩
      simp -implicitDefEqProofs (disch := omega) only [go_sem, ↓reduceIte, Nat.reduceEqDiff, Nat.reduceMul, Nat.reduceAdd, Nat.reduceDiv, Nat.reduceBEq, Nat.reduceLeDiff, Int.reduceToNat, Int.reduceNe, Int.reduceEq, Int.reduceLT, Int.reduceLE, Int.reduceBEq, Int.reduceBNe, ne_eq, not_true_eq_false, not_false_eq_true, decide_true, decide_false, Int.cast_ofNat_Int, beq_self_eq_true, eq_self, Bool.true_and, Bool.and_true, Bool.false_and, Bool.and_false, Bool.not_true, Bool.not_false, List.length_map, h9, h14, h17, hs]
      refine branch_mk (fun hc => ?_) (fun hc => ?_)
      · have e1 : ((i : Int) - 1).toNat = i - 1 := by omega
        have hasc : 0 < i → (gd p (i - 1)).2 ≤ (gd p i).2 := fun h0 => by
          have := hP.ok.asc (i - 1) (by omega)
          rwa [show i - 1 + 1 = i from by omega] at this
        have hstr : 0 < i → i + 1 < p.length → (gd p (i - 1)).2 < (gd p i).2 := fun h0 h1 => by
          have := hP.ok.strict (i - 1) (by omega)
          rwa [show i - 1 + 1 = i from by omega] at this
        simp -implicitDefEqProofs (disch := omega) only [go_sem, ↓reduceIte, Nat.reduceEqDiff, Nat.reduceMul, Nat.reduceAdd, Nat.reduceDiv, Nat.reduceBEq, Nat.reduceLeDiff, Int.reduceToNat, Int.reduceNe, Int.reduceEq, Int.reduceLT, Int.reduceLE, Int.reduceBEq, Int.reduceBNe, ne_eq, not_true_eq_false, not_false_eq_true, decide_true, decide_false, Int.cast_ofNat_Int, beq_self_eq_true, eq_self, Bool.true_and, Bool.and_true, Bool.false_and, Bool.and_false, Bool.not_true, Bool.not_false, List.length_map, h9, h14, h17, hs, e1]
        repeat' (first | ((with_reducible refine branch_mk (fun hb => ?_) (fun hb => ?_)) <;> simp -implicitDefEqProofs (disch := omega) only [go_sem, ↓reduceIte, Nat.reduceEqDiff, Nat.reduceMul, Nat.reduceAdd, Nat.reduceDiv, Nat.reduceBEq, Nat.reduceLeDiff, Int.reduceToNat, Int.reduceNe, Int.reduceEq, Int.reduceLT, Int.reduceLE, Int.reduceBEq, Int.reduceBNe, ne_eq, not_true_eq_false, not_false_eq_true, decide_true, decide_false, Int.cast_ofNat_Int, beq_self_eq_true, eq_self, Bool.true_and, Bool.and_true, Bool.false_and, Bool.and_false, Bool.not_true, Bool.not_false, List.length_map, h9, h14, h17, hs, e1, Try.results4, hb]))
        all_goals first
          | (exfalso; omega)
          | (refine loopC_mk (fun n E σ => ∃ m : Nat, m + n = i ∧ E 9 = B true ∧ E 14 = .own 10486352 2 0 p.length ∧ E 17 = I i ∧ E 18 = I m ∧ σ 10486352 = some ⟨40, 2, p.map HP⟩) i ⟨0, by omega, ?_⟩ ?_
             · simp -implicitDefEqProofs (disch := omega) only [go_sem, ↓reduceIte, Nat.reduceEqDiff, Nat.reduceMul, Nat.reduceAdd, Nat.reduceDiv, Nat.reduceBEq, Nat.reduceLeDiff, Int.reduceToNat, Int.reduceNe, Int.reduceEq, Int.reduceLT, Int.reduceLE, Int.reduceBEq, Int.reduceBNe, ne_eq, not_true_eq_false, not_false_eq_true, decide_true, decide_false, Int.cast_ofNat_Int, beq_self_eq_true, eq_self, Bool.true_and, Bool.and_true, Bool.false_and, Bool.and_false, Bool.not_true, Bool.not_false, List.length_map, h9, h14, h17, hs]
             · clear h9 h14 h17 hs
               rintro n' E σ ⟨m, hm, h9, h14, h17, h18, hs⟩
               simp -implicitDefEqProofs (disch := omega) only [go_sem, ↓reduceIte, Nat.reduceEqDiff, Nat.reduceMul, Nat.reduceAdd, Nat.reduceDiv, Nat.reduceBEq, Nat.reduceLeDiff, Int.reduceToNat, Int.reduceNe, Int.reduceEq, Int.reduceLT, Int.reduceLE, Int.reduceBEq, Int.reduceBNe, ne_eq, not_true_eq_false, not_false_eq_true, decide_true, decide_false, Int.cast_ofNat_Int, beq_self_eq_true, eq_self, Bool.true_and, Bool.and_true, Bool.false_and, Bool.and_false, Bool.not_true, Bool.not_false, List.length_map, h9, h14, h17, h18, hs]
               refine branch_mk (fun hd => ?_) (fun hd => ?_)
               · have ho := hP.once m i (by omega) (by omega)
                 simp -implicitDefEqProofs (disch := omega) only [go_sem, ↓reduceIte, Nat.reduceEqDiff, Nat.reduceMul, Nat.reduceAdd, Nat.reduceDiv, Nat.reduceBEq, Nat.reduceLeDiff, Int.reduceToNat, Int.reduceNe, Int.reduceEq, Int.reduceLT, Int.reduceLE, Int.reduceBEq, Int.reduceBNe, ne_eq, not_true_eq_false, not_false_eq_true, decide_true, decide_false, Int.cast_ofNat_Int, beq_self_eq_true, eq_self, Bool.true_and, Bool.and_true, Bool.false_and, Bool.and_false, Bool.not_true, Bool.not_false, List.length_map, h9, h14, h17, h18, hs, ho]
                 refine againQ_mk (n' - 1) (by omega) ⟨m + 1, by omega, ?_⟩
                 simp -implicitDefEqProofs (disch := omega) only [go_sem, ↓reduceIte, Nat.reduceEqDiff, Nat.reduceMul, Nat.reduceAdd, Nat.reduceDiv, Nat.reduceBEq, Nat.reduceLeDiff, Int.reduceToNat, Int.reduceNe, Int.reduceEq, Int.reduceLT, Int.reduceLE, Int.reduceBEq, Int.reduceBNe, ne_eq, not_true_eq_false, not_false_eq_true, decide_true, decide_false, Int.cast_ofNat_Int, beq_self_eq_true, eq_self, Bool.true_and, Bool.and_true, Bool.false_and, Bool.and_false, Bool.not_true, Bool.not_false, List.length_map, h9, h14, h17, h18, hs]
                 simp
               · simp -implicitDefEqProofs (disch := omega) only [go_sem, ↓reduceIte, Nat.reduceEqDiff, Nat.reduceMul, Nat.reduceAdd, Nat.reduceDiv, Nat.reduceBEq, Nat.reduceLeDiff, Int.reduceToNat, Int.reduceNe, Int.reduceEq, Int.reduceLT, Int.reduceLE, Int.reduceBEq, Int.reduceBNe, ne_eq, not_true_eq_false, not_false_eq_true, decide_true, decide_false, Int.cast_ofNat_Int, beq_self_eq_true, eq_self, Bool.true_and, Bool.and_true, Bool.false_and, Bool.and_false, Bool.not_true, Bool.not_false, List.length_map, h9, h14, h17, h18, hs]
                 refine againQ_mk (n - 1) (by omega) ⟨i + 1, by omega, ?_⟩
                 simp -implicitDefEqProofs (disch := omega) only [go_sem, ↓reduceIte, Nat.reduceEqDiff, Nat.reduceMul, Nat.reduceAdd, Nat.reduceDiv, Nat.reduceBEq, Nat.reduceLeDiff, Int.reduceToNat, Int.reduceNe, Int.reduceEq, Int.reduceLT, Int.reduceLE, Int.reduceBEq, Int.reduceBNe, ne_eq, not_true_eq_false, not_false_eq_true, decide_true, decide_false, Int.cast_ofNat_Int, beq_self_eq_true, eq_self, Bool.true_and, Bool.and_true, Bool.false_and, Bool.and_false, Bool.not_true, Bool.not_false, List.length_map, h9, h14, h17, h18, hs]
                 simp)
      · simp -implicitDefEqProofs (disch := omega) only [go_sem, ↓reduceIte, Nat.reduceEqDiff, Nat.reduceMul, Nat.reduceAdd, Nat.reduceDiv, Nat.reduceBEq, Nat.reduceLeDiff, Int.reduceToNat, Int.reduceNe, Int.reduceEq, Int.reduceLT, Int.reduceLE, Int.reduceBEq, Int.reduceBNe, ne_eq, not_true_eq_false, not_false_eq_true, decide_true, decide_false, Int.cast_ofNat_Int, beq_self_eq_true, eq_self, Bool.true_and, Bool.and_true, Bool.false_and, Bool.and_false, Bool.not_true, Bool.not_false, List.length_map, h9, h14, h17, hs, Try.results4]
  · rw [pathR, if_neg hcan] at hp
    have hn : ¬ 0 ≤ gd k d.toNat := by rw [hci] at hcan; simpa using hcan
    refine callC_at hp ?_
    simp -implicitDefEqProofs (disch := omega) only [go_sem, ↓reduceIte, Nat.reduceEqDiff, Nat.reduceMul, Nat.reduceAdd, Nat.reduceDiv, Nat.reduceBEq, Nat.reduceLeDiff, Int.reduceToNat, Int.reduceNe, Int.reduceEq, Int.reduceLT, Int.reduceLE, Int.reduceBEq, Int.reduceBNe, ne_eq, not_true_eq_false, not_false_eq_true, decide_true, decide_false, Int.cast_ofNat_Int, beq_self_eq_true, eq_self, Bool.true_and, Bool.and_true, Bool.false_and, Bool.and_false, Bool.not_true, Bool.not_false, List.length_map]
    refine callC_at hval ?_
    simp -implicitDefEqProofs (disch := omega) only [go_sem, ↓reduceIte, Nat.reduceEqDiff, Nat.reduceMul, Nat.reduceAdd, Nat.reduceDiv, Nat.reduceBEq, Nat.reduceLeDiff, Int.reduceToNat, Int.reduceNe, Int.reduceEq, Int.reduceLT, Int.reduceLE, Int.reduceBEq, Int.reduceBNe, ne_eq, not_true_eq_false, not_false_eq_true, decide_true, decide_false, Int.cast_ofNat_Int, beq_self_eq_true, eq_self, Bool.true_and, Bool.and_true, Bool.false_and, Bool.and_false, Bool.not_true, Bool.not_false, List.length_map, hn, Int.natCast_zero, Try.results4]
end Go.Proofs.Ytmiahmpobpokmaa

/- Chapter 24: the frame of the statements. -/
set_option maxRecDepth 100000
set_option linter.unusedSimpArgs false
namespace Go.Proofs.Ytmiahmpobpokmaa
open Go.Vai Go Go.Proofs

theorem own : ownKnob Try.checked.prog.godebug = none := by kernel_rfl
theorem laidOut : laidOutB Try.checked.prog = true := by kernel_rfl
section
variable {H : Type} {enc : TypeId × Value → H} {w : World}
def OI (a : AV) : Prop := ∃ n, R64 n ∧ a = I n
def OS (a : AV) : Prop := ∃ l : List Int, l.length ≤ 9223372036854775807 ∧ (∀ x ∈ l, R64 x) ∧ a = SL l
theorem wf64 {n : Int} : (Lit.int .i64 n).wf = true ↔ R64 n := by
  have h1 : IntKind.i64.min = -9223372036854775808 := by decide
  have h2 : IntKind.i64.max = 9223372036854775807 := by decide
  simp [Lit.wf, R64, h1, h2]
theorem o_int {t : TypeId} (ht : Try.prog.underlying t = some (.int .i64)) : Opens Try.prog enc w t OI :=
  (opens_int ht).mono (fun a ⟨n, h, e⟩ => ⟨n, wf64.1 h, e⟩) fun a ⟨n, h, e⟩ => ⟨n, wf64.2 h, e⟩
theorem o_ints : Opens Try.prog enc w 22 OS :=
  (opens_slice (T := Int) (q := R64) (f := I) (e := 3) (sz := 1) (by kernel_rfl) (by kernel_rfl) (by decide) (o_int (by kernel_rfl))).mono
    (fun a ⟨l, h, h1, e⟩ => ⟨l, h, h1, e⟩) fun a ⟨l, h, h1, e⟩ => ⟨l, h, h1, e⟩
end
end Go.Proofs.Ytmiahmpobpokmaa

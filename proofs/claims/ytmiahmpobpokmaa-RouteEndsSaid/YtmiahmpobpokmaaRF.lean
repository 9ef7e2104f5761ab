/- Facts about the types, written by facts.py. -/
import Derived.Test.YtmiahmpobpokmaaVu
import Derived.Test.YtmiahmpobpokmaaProg
set_option maxRecDepth 100000
namespace Go.Proofs.Ytmiahmpobpokmaa
open Go.Vai Go Go.Proofs
@[go_sem] theorem tund_0 : tund Try.prog 0 = true := by kernel_rfl
@[go_sem] theorem tsz_0 : tsz Try.prog 0 = 1 := by kernel_rfl
@[go_sem] theorem tel_0 : tel Try.prog 0 = (none : Option TypeId) := by kernel_rfl
@[go_sem] theorem tarr_0 : tarr Try.prog 0 = (none : Option (Nat × TypeId)) := by kernel_rfl
@[go_sem] theorem tfld_0 : tfld Try.prog 0 = (none : Option (List (Nat × TypeId))) := by kernel_rfl
@[go_sem] theorem tint_0 : tint Try.prog 0 = (none : Option IntKind) := by kernel_rfl
@[go_sem] theorem tstr_0 : tstr Try.prog 0 = false := by kernel_rfl
@[go_sem] theorem tagg_0 : tagg Try.prog 0 = (some false : Option Bool) := by kernel_rfl
@[go_sem] theorem tby_0 : tby Try.prog 0 = 0 := by kernel_rfl
@[go_sem] theorem tkind_0 : tkind Try.prog 0 = (none : Option Nat) := by kernel_rfl
@[go_sem] theorem teq_0 : teq Try.prog 0 = (none : Option (List Nat)) := by kernel_rfl
@[go_sem] theorem tzA_0 : tzA Try.prog 0 = (some (AV.tup []) : Option AV) := by kernel_rfl
@[go_sem] theorem tund_1 : tund Try.prog 1 = true := by kernel_rfl
@[go_sem] theorem tsz_1 : tsz Try.prog 1 = 1 := by kernel_rfl
@[go_sem] theorem tel_1 : tel Try.prog 1 = (none : Option TypeId) := by kernel_rfl
@[go_sem] theorem tarr_1 : tarr Try.prog 1 = (none : Option (Nat × TypeId)) := by kernel_rfl
@[go_sem] theorem tfld_1 : tfld Try.prog 1 = (none : Option (List (Nat × TypeId))) := by kernel_rfl
@[go_sem] theorem tint_1 : tint Try.prog 1 = (none : Option IntKind) := by kernel_rfl
@[go_sem] theorem tstr_1 : tstr Try.prog 1 = false := by kernel_rfl
@[go_sem] theorem tagg_1 : tagg Try.prog 1 = (some false : Option Bool) := by kernel_rfl
@[go_sem] theorem tby_1 : tby Try.prog 1 = 8 := by kernel_rfl
@[go_sem] theorem tkind_1 : tkind Try.prog 1 = (none : Option Nat) := by kernel_rfl
@[go_sem] theorem teq_1 : teq Try.prog 1 = (none : Option (List Nat)) := by kernel_rfl
@[go_sem] theorem tzA_1 : tzA Try.prog 1 = (some (AV.v Value.nilFunc) : Option AV) := by kernel_rfl
@[go_sem] theorem tund_2 : tund Try.prog 2 = true := by kernel_rfl
@[go_sem] theorem tsz_2 : tsz Try.prog 2 = 1 := by kernel_rfl
@[go_sem] theorem tel_2 : tel Try.prog 2 = (none : Option TypeId) := by kernel_rfl
@[go_sem] theorem tarr_2 : tarr Try.prog 2 = (none : Option (Nat × TypeId)) := by kernel_rfl
@[go_sem] theorem tfld_2 : tfld Try.prog 2 = (none : Option (List (Nat × TypeId))) := by kernel_rfl
@[go_sem] theorem tint_2 : tint Try.prog 2 = (some IntKind.i64 : Option IntKind) := by kernel_rfl
@[go_sem] theorem tstr_2 : tstr Try.prog 2 = false := by kernel_rfl
@[go_sem] theorem tagg_2 : tagg Try.prog 2 = (some false : Option Bool) := by kernel_rfl
@[go_sem] theorem tby_2 : tby Try.prog 2 = 8 := by kernel_rfl
@[go_sem] theorem tkind_2 : tkind Try.prog 2 = (some 0 : Option Nat) := by kernel_rfl
@[go_sem] theorem teq_2 : teq Try.prog 2 = (none : Option (List Nat)) := by kernel_rfl
@[go_sem] theorem tzA_2 : tzA Try.prog 2 = (some (AV.v (Value.int IntKind.i64 (0))) : Option AV) := by kernel_rfl
@[go_sem] theorem tund_3 : tund Try.prog 3 = true := by kernel_rfl
@[go_sem] theorem tsz_3 : tsz Try.prog 3 = 1 := by kernel_rfl
@[go_sem] theorem tel_3 : tel Try.prog 3 = (none : Option TypeId) := by kernel_rfl
@[go_sem] theorem tarr_3 : tarr Try.prog 3 = (none : Option (Nat × TypeId)) := by kernel_rfl
@[go_sem] theorem tfld_3 : tfld Try.prog 3 = (none : Option (List (Nat × TypeId))) := by kernel_rfl
@[go_sem] theorem tint_3 : tint Try.prog 3 = (some IntKind.i64 : Option IntKind) := by kernel_rfl
@[go_sem] theorem tstr_3 : tstr Try.prog 3 = false := by kernel_rfl
@[go_sem] theorem tagg_3 : tagg Try.prog 3 = (some false : Option Bool) := by kernel_rfl
@[go_sem] theorem tby_3 : tby Try.prog 3 = 8 := by kernel_rfl
@[go_sem] theorem tkind_3 : tkind Try.prog 3 = (some 0 : Option Nat) := by kernel_rfl
@[go_sem] theorem teq_3 : teq Try.prog 3 = (none : Option (List Nat)) := by kernel_rfl
@[go_sem] theorem tzA_3 : tzA Try.prog 3 = (some (AV.v (Value.int IntKind.i64 (0))) : Option AV) := by kernel_rfl
@[go_sem] theorem tund_4 : tund Try.prog 4 = true := by kernel_rfl
@[go_sem] theorem tsz_4 : tsz Try.prog 4 = 1 := by kernel_rfl
@[go_sem] theorem tel_4 : tel Try.prog 4 = (none : Option TypeId) := by kernel_rfl
@[go_sem] theorem tarr_4 : tarr Try.prog 4 = (none : Option (Nat × TypeId)) := by kernel_rfl
@[go_sem] theorem tfld_4 : tfld Try.prog 4 = (none : Option (List (Nat × TypeId))) := by kernel_rfl
@[go_sem] theorem tint_4 : tint Try.prog 4 = (none : Option IntKind) := by kernel_rfl
@[go_sem] theorem tstr_4 : tstr Try.prog 4 = false := by kernel_rfl
@[go_sem] theorem tagg_4 : tagg Try.prog 4 = (some false : Option Bool) := by kernel_rfl
@[go_sem] theorem tby_4 : tby Try.prog 4 = 1 := by kernel_rfl
@[go_sem] theorem tkind_4 : tkind Try.prog 4 = (some 1 : Option Nat) := by kernel_rfl
@[go_sem] theorem teq_4 : teq Try.prog 4 = (none : Option (List Nat)) := by kernel_rfl
@[go_sem] theorem tzA_4 : tzA Try.prog 4 = (some (AV.v (Value.bool false)) : Option AV) := by kernel_rfl
@[go_sem] theorem tund_5 : tund Try.prog 5 = true := by kernel_rfl
@[go_sem] theorem tsz_5 : tsz Try.prog 5 = 1 := by kernel_rfl
@[go_sem] theorem tel_5 : tel Try.prog 5 = (none : Option TypeId) := by kernel_rfl
@[go_sem] theorem tarr_5 : tarr Try.prog 5 = (none : Option (Nat × TypeId)) := by kernel_rfl
@[go_sem] theorem tfld_5 : tfld Try.prog 5 = (none : Option (List (Nat × TypeId))) := by kernel_rfl
@[go_sem] theorem tint_5 : tint Try.prog 5 = (some IntKind.u8 : Option IntKind) := by kernel_rfl
@[go_sem] theorem tstr_5 : tstr Try.prog 5 = false := by kernel_rfl
@[go_sem] theorem tagg_5 : tagg Try.prog 5 = (some false : Option Bool) := by kernel_rfl
@[go_sem] theorem tby_5 : tby Try.prog 5 = 1 := by kernel_rfl
@[go_sem] theorem tkind_5 : tkind Try.prog 5 = (some 0 : Option Nat) := by kernel_rfl
@[go_sem] theorem teq_5 : teq Try.prog 5 = (none : Option (List Nat)) := by kernel_rfl
@[go_sem] theorem tzA_5 : tzA Try.prog 5 = (some (AV.v (Value.int IntKind.u8 (0))) : Option AV) := by kernel_rfl
@[go_sem] theorem tund_6 : tund Try.prog 6 = true := by kernel_rfl
@[go_sem] theorem tsz_6 : tsz Try.prog 6 = 1 := by kernel_rfl
@[go_sem] theorem tel_6 : tel Try.prog 6 = (none : Option TypeId) := by kernel_rfl
@[go_sem] theorem tarr_6 : tarr Try.prog 6 = (none : Option (Nat × TypeId)) := by kernel_rfl
@[go_sem] theorem tfld_6 : tfld Try.prog 6 = (none : Option (List (Nat × TypeId))) := by kernel_rfl
@[go_sem] theorem tint_6 : tint Try.prog 6 = (some IntKind.u8 : Option IntKind) := by kernel_rfl
@[go_sem] theorem tstr_6 : tstr Try.prog 6 = false := by kernel_rfl
@[go_sem] theorem tagg_6 : tagg Try.prog 6 = (some false : Option Bool) := by kernel_rfl
@[go_sem] theorem tby_6 : tby Try.prog 6 = 1 := by kernel_rfl
@[go_sem] theorem tkind_6 : tkind Try.prog 6 = (some 0 : Option Nat) := by kernel_rfl
@[go_sem] theorem teq_6 : teq Try.prog 6 = (none : Option (List Nat)) := by kernel_rfl
@[go_sem] theorem tzA_6 : tzA Try.prog 6 = (some (AV.v (Value.int IntKind.u8 (0))) : Option AV) := by kernel_rfl
@[go_sem] theorem tund_7 : tund Try.prog 7 = true := by kernel_rfl
@[go_sem] theorem tsz_7 : tsz Try.prog 7 = 4 := by kernel_rfl
@[go_sem] theorem tel_7 : tel Try.prog 7 = (none : Option TypeId) := by kernel_rfl
@[go_sem] theorem tarr_7 : tarr Try.prog 7 = (none : Option (Nat × TypeId)) := by kernel_rfl
@[go_sem] theorem tfld_7 : tfld Try.prog 7 = (some [(0, 2), (1, 3), (2, 4), (3, 6)] : Option (List (Nat × TypeId))) := by kernel_rfl
@[go_sem] theorem tint_7 : tint Try.prog 7 = (none : Option IntKind) := by kernel_rfl
@[go_sem] theorem tstr_7 : tstr Try.prog 7 = false := by kernel_rfl
@[go_sem] theorem tagg_7 : tagg Try.prog 7 = (some true : Option Bool) := by kernel_rfl
@[go_sem] theorem tby_7 : tby Try.prog 7 = 24 := by kernel_rfl
@[go_sem] theorem tkind_7 : tkind Try.prog 7 = (none : Option Nat) := by kernel_rfl
@[go_sem] theorem teq_7 : teq Try.prog 7 = (some [0, 0, 1, 0] : Option (List Nat)) := by kernel_rfl
@[go_sem] theorem tzA_7 : tzA Try.prog 7 = (some (AV.agg [AV.v (Value.int IntKind.i64 (0)), AV.v (Value.int IntKind.i64 (0)), AV.v (Value.bool false), AV.v (Value.int IntKind.u8 (0))]) : Option AV) := by kernel_rfl
@[go_sem] theorem tund_8 : tund Try.prog 8 = true := by kernel_rfl
@[go_sem] theorem tsz_8 : tsz Try.prog 8 = 4 := by kernel_rfl
@[go_sem] theorem tel_8 : tel Try.prog 8 = (none : Option TypeId) := by kernel_rfl
@[go_sem] theorem tarr_8 : tarr Try.prog 8 = (none : Option (Nat × TypeId)) := by kernel_rfl
@[go_sem] theorem tfld_8 : tfld Try.prog 8 = (some [(0, 2), (1, 3), (2, 4), (3, 6)] : Option (List (Nat × TypeId))) := by kernel_rfl
@[go_sem] theorem tint_8 : tint Try.prog 8 = (none : Option IntKind) := by kernel_rfl
@[go_sem] theorem tstr_8 : tstr Try.prog 8 = false := by kernel_rfl
@[go_sem] theorem tagg_8 : tagg Try.prog 8 = (some true : Option Bool) := by kernel_rfl
@[go_sem] theorem tby_8 : tby Try.prog 8 = 24 := by kernel_rfl
@[go_sem] theorem tkind_8 : tkind Try.prog 8 = (none : Option Nat) := by kernel_rfl
@[go_sem] theorem teq_8 : teq Try.prog 8 = (some [0, 0, 1, 0] : Option (List Nat)) := by kernel_rfl
@[go_sem] theorem tzA_8 : tzA Try.prog 8 = (some (AV.agg [AV.v (Value.int IntKind.i64 (0)), AV.v (Value.int IntKind.i64 (0)), AV.v (Value.bool false), AV.v (Value.int IntKind.u8 (0))]) : Option AV) := by kernel_rfl
@[go_sem] theorem tund_9 : tund Try.prog 9 = true := by kernel_rfl
@[go_sem] theorem tsz_9 : tsz Try.prog 9 = 1 := by kernel_rfl
@[go_sem] theorem tel_9 : tel Try.prog 9 = (none : Option TypeId) := by kernel_rfl
@[go_sem] theorem tarr_9 : tarr Try.prog 9 = (none : Option (Nat × TypeId)) := by kernel_rfl
@[go_sem] theorem tfld_9 : tfld Try.prog 9 = (none : Option (List (Nat × TypeId))) := by kernel_rfl
@[go_sem] theorem tint_9 : tint Try.prog 9 = (none : Option IntKind) := by kernel_rfl
@[go_sem] theorem tstr_9 : tstr Try.prog 9 = true := by kernel_rfl
@[go_sem] theorem tagg_9 : tagg Try.prog 9 = (some false : Option Bool) := by kernel_rfl
@[go_sem] theorem tby_9 : tby Try.prog 9 = 16 := by kernel_rfl
@[go_sem] theorem tkind_9 : tkind Try.prog 9 = (some 2 : Option Nat) := by kernel_rfl
@[go_sem] theorem teq_9 : teq Try.prog 9 = (none : Option (List Nat)) := by kernel_rfl
@[go_sem] theorem tzA_9 : tzA Try.prog 9 = (some (AV.v (Value.string ByteArray.empty)) : Option AV) := by kernel_rfl
@[go_sem] theorem tund_10 : tund Try.prog 10 = true := by kernel_rfl
@[go_sem] theorem tsz_10 : tsz Try.prog 10 = 1 := by kernel_rfl
@[go_sem] theorem tel_10 : tel Try.prog 10 = (none : Option TypeId) := by kernel_rfl
@[go_sem] theorem tarr_10 : tarr Try.prog 10 = (none : Option (Nat × TypeId)) := by kernel_rfl
@[go_sem] theorem tfld_10 : tfld Try.prog 10 = (none : Option (List (Nat × TypeId))) := by kernel_rfl
@[go_sem] theorem tint_10 : tint Try.prog 10 = (none : Option IntKind) := by kernel_rfl
@[go_sem] theorem tstr_10 : tstr Try.prog 10 = true := by kernel_rfl
@[go_sem] theorem tagg_10 : tagg Try.prog 10 = (some false : Option Bool) := by kernel_rfl
@[go_sem] theorem tby_10 : tby Try.prog 10 = 16 := by kernel_rfl
@[go_sem] theorem tkind_10 : tkind Try.prog 10 = (some 2 : Option Nat) := by kernel_rfl
@[go_sem] theorem teq_10 : teq Try.prog 10 = (none : Option (List Nat)) := by kernel_rfl
@[go_sem] theorem tzA_10 : tzA Try.prog 10 = (some (AV.v (Value.string ByteArray.empty)) : Option AV) := by kernel_rfl
@[go_sem] theorem tund_11 : tund Try.prog 11 = true := by kernel_rfl
@[go_sem] theorem tsz_11 : tsz Try.prog 11 = 1 := by kernel_rfl
@[go_sem] theorem tel_11 : tel Try.prog 11 = (none : Option TypeId) := by kernel_rfl
@[go_sem] theorem tarr_11 : tarr Try.prog 11 = (none : Option (Nat × TypeId)) := by kernel_rfl
@[go_sem] theorem tfld_11 : tfld Try.prog 11 = (none : Option (List (Nat × TypeId))) := by kernel_rfl
@[go_sem] theorem tint_11 : tint Try.prog 11 = (none : Option IntKind) := by kernel_rfl
@[go_sem] theorem tstr_11 : tstr Try.prog 11 = true := by kernel_rfl
@[go_sem] theorem tagg_11 : tagg Try.prog 11 = (some false : Option Bool) := by kernel_rfl
@[go_sem] theorem tby_11 : tby Try.prog 11 = 16 := by kernel_rfl
@[go_sem] theorem tkind_11 : tkind Try.prog 11 = (some 2 : Option Nat) := by kernel_rfl
@[go_sem] theorem teq_11 : teq Try.prog 11 = (none : Option (List Nat)) := by kernel_rfl
@[go_sem] theorem tzA_11 : tzA Try.prog 11 = (some (AV.v (Value.string ByteArray.empty)) : Option AV) := by kernel_rfl
@[go_sem] theorem tund_12 : tund Try.prog 12 = true := by kernel_rfl
@[go_sem] theorem tsz_12 : tsz Try.prog 12 = 1 := by kernel_rfl
@[go_sem] theorem tel_12 : tel Try.prog 12 = (none : Option TypeId) := by kernel_rfl
@[go_sem] theorem tarr_12 : tarr Try.prog 12 = (none : Option (Nat × TypeId)) := by kernel_rfl
@[go_sem] theorem tfld_12 : tfld Try.prog 12 = (none : Option (List (Nat × TypeId))) := by kernel_rfl
@[go_sem] theorem tint_12 : tint Try.prog 12 = (some IntKind.u64 : Option IntKind) := by kernel_rfl
@[go_sem] theorem tstr_12 : tstr Try.prog 12 = false := by kernel_rfl
@[go_sem] theorem tagg_12 : tagg Try.prog 12 = (some false : Option Bool) := by kernel_rfl
@[go_sem] theorem tby_12 : tby Try.prog 12 = 8 := by kernel_rfl
@[go_sem] theorem tkind_12 : tkind Try.prog 12 = (some 0 : Option Nat) := by kernel_rfl
@[go_sem] theorem teq_12 : teq Try.prog 12 = (none : Option (List Nat)) := by kernel_rfl
@[go_sem] theorem tzA_12 : tzA Try.prog 12 = (some (AV.v (Value.int IntKind.u64 (0))) : Option AV) := by kernel_rfl
@[go_sem] theorem tund_13 : tund Try.prog 13 = true := by kernel_rfl
@[go_sem] theorem tsz_13 : tsz Try.prog 13 = 2 := by kernel_rfl
@[go_sem] theorem tel_13 : tel Try.prog 13 = (none : Option TypeId) := by kernel_rfl
@[go_sem] theorem tarr_13 : tarr Try.prog 13 = (none : Option (Nat × TypeId)) := by kernel_rfl
@[go_sem] theorem tfld_13 : tfld Try.prog 13 = (some [(0, 9), (1, 12)] : Option (List (Nat × TypeId))) := by kernel_rfl
@[go_sem] theorem tint_13 : tint Try.prog 13 = (none : Option IntKind) := by kernel_rfl
@[go_sem] theorem tstr_13 : tstr Try.prog 13 = false := by kernel_rfl
@[go_sem] theorem tagg_13 : tagg Try.prog 13 = (some true : Option Bool) := by kernel_rfl
@[go_sem] theorem tby_13 : tby Try.prog 13 = 24 := by kernel_rfl
@[go_sem] theorem tkind_13 : tkind Try.prog 13 = (none : Option Nat) := by kernel_rfl
@[go_sem] theorem teq_13 : teq Try.prog 13 = (none : Option (List Nat)) := by kernel_rfl
@[go_sem] theorem tzA_13 : tzA Try.prog 13 = (some (AV.agg [AV.v (Value.string ByteArray.empty), AV.v (Value.int IntKind.u64 (0))]) : Option AV) := by kernel_rfl
@[go_sem] theorem tund_14 : tund Try.prog 14 = true := by kernel_rfl
@[go_sem] theorem tsz_14 : tsz Try.prog 14 = 2 := by kernel_rfl
@[go_sem] theorem tel_14 : tel Try.prog 14 = (none : Option TypeId) := by kernel_rfl
@[go_sem] theorem tarr_14 : tarr Try.prog 14 = (none : Option (Nat × TypeId)) := by kernel_rfl
@[go_sem] theorem tfld_14 : tfld Try.prog 14 = (some [(0, 9), (1, 12)] : Option (List (Nat × TypeId))) := by kernel_rfl
@[go_sem] theorem tint_14 : tint Try.prog 14 = (none : Option IntKind) := by kernel_rfl
@[go_sem] theorem tstr_14 : tstr Try.prog 14 = false := by kernel_rfl
@[go_sem] theorem tagg_14 : tagg Try.prog 14 = (some true : Option Bool) := by kernel_rfl
@[go_sem] theorem tby_14 : tby Try.prog 14 = 24 := by kernel_rfl
@[go_sem] theorem tkind_14 : tkind Try.prog 14 = (none : Option Nat) := by kernel_rfl
@[go_sem] theorem teq_14 : teq Try.prog 14 = (none : Option (List Nat)) := by kernel_rfl
@[go_sem] theorem tzA_14 : tzA Try.prog 14 = (some (AV.agg [AV.v (Value.string ByteArray.empty), AV.v (Value.int IntKind.u64 (0))]) : Option AV) := by kernel_rfl
@[go_sem] theorem tund_15 : tund Try.prog 15 = true := by kernel_rfl
@[go_sem] theorem tsz_15 : tsz Try.prog 15 = 1 := by kernel_rfl
@[go_sem] theorem tel_15 : tel Try.prog 15 = (none : Option TypeId) := by kernel_rfl
@[go_sem] theorem tarr_15 : tarr Try.prog 15 = (none : Option (Nat × TypeId)) := by kernel_rfl
@[go_sem] theorem tfld_15 : tfld Try.prog 15 = (none : Option (List (Nat × TypeId))) := by kernel_rfl
@[go_sem] theorem tint_15 : tint Try.prog 15 = (none : Option IntKind) := by kernel_rfl
@[go_sem] theorem tstr_15 : tstr Try.prog 15 = false := by kernel_rfl
@[go_sem] theorem tagg_15 : tagg Try.prog 15 = (some false : Option Bool) := by kernel_rfl
@[go_sem] theorem tby_15 : tby Try.prog 15 = 8 := by kernel_rfl
@[go_sem] theorem tkind_15 : tkind Try.prog 15 = (none : Option Nat) := by kernel_rfl
@[go_sem] theorem teq_15 : teq Try.prog 15 = (none : Option (List Nat)) := by kernel_rfl
@[go_sem] theorem tzA_15 : tzA Try.prog 15 = (some (AV.v (Value.pointer none)) : Option AV) := by kernel_rfl
@[go_sem] theorem tund_16 : tund Try.prog 16 = true := by kernel_rfl
@[go_sem] theorem tsz_16 : tsz Try.prog 16 = 1 := by kernel_rfl
@[go_sem] theorem tel_16 : tel Try.prog 16 = (none : Option TypeId) := by kernel_rfl
@[go_sem] theorem tarr_16 : tarr Try.prog 16 = (none : Option (Nat × TypeId)) := by kernel_rfl
@[go_sem] theorem tfld_16 : tfld Try.prog 16 = (none : Option (List (Nat × TypeId))) := by kernel_rfl
@[go_sem] theorem tint_16 : tint Try.prog 16 = (none : Option IntKind) := by kernel_rfl
@[go_sem] theorem tstr_16 : tstr Try.prog 16 = false := by kernel_rfl
@[go_sem] theorem tagg_16 : tagg Try.prog 16 = (some false : Option Bool) := by kernel_rfl
@[go_sem] theorem tby_16 : tby Try.prog 16 = 8 := by kernel_rfl
@[go_sem] theorem tkind_16 : tkind Try.prog 16 = (none : Option Nat) := by kernel_rfl
@[go_sem] theorem teq_16 : teq Try.prog 16 = (none : Option (List Nat)) := by kernel_rfl
@[go_sem] theorem tzA_16 : tzA Try.prog 16 = (some (AV.v (Value.pointer none)) : Option AV) := by kernel_rfl
@[go_sem] theorem tund_17 : tund Try.prog 17 = true := by kernel_rfl
@[go_sem] theorem tsz_17 : tsz Try.prog 17 = 1 := by kernel_rfl
@[go_sem] theorem tel_17 : tel Try.prog 17 = (none : Option TypeId) := by kernel_rfl
@[go_sem] theorem tarr_17 : tarr Try.prog 17 = (none : Option (Nat × TypeId)) := by kernel_rfl
@[go_sem] theorem tfld_17 : tfld Try.prog 17 = (none : Option (List (Nat × TypeId))) := by kernel_rfl
@[go_sem] theorem tint_17 : tint Try.prog 17 = (none : Option IntKind) := by kernel_rfl
@[go_sem] theorem tstr_17 : tstr Try.prog 17 = false := by kernel_rfl
@[go_sem] theorem tagg_17 : tagg Try.prog 17 = (some false : Option Bool) := by kernel_rfl
@[go_sem] theorem tby_17 : tby Try.prog 17 = 8 := by kernel_rfl
@[go_sem] theorem tkind_17 : tkind Try.prog 17 = (none : Option Nat) := by kernel_rfl
@[go_sem] theorem teq_17 : teq Try.prog 17 = (none : Option (List Nat)) := by kernel_rfl
@[go_sem] theorem tzA_17 : tzA Try.prog 17 = (some (AV.v (Value.pointer none)) : Option AV) := by kernel_rfl
@[go_sem] theorem tund_18 : tund Try.prog 18 = true := by kernel_rfl
@[go_sem] theorem tsz_18 : tsz Try.prog 18 = 1 := by kernel_rfl
@[go_sem] theorem tel_18 : tel Try.prog 18 = (none : Option TypeId) := by kernel_rfl
@[go_sem] theorem tarr_18 : tarr Try.prog 18 = (none : Option (Nat × TypeId)) := by kernel_rfl
@[go_sem] theorem tfld_18 : tfld Try.prog 18 = (some [(0, 17)] : Option (List (Nat × TypeId))) := by kernel_rfl
@[go_sem] theorem tint_18 : tint Try.prog 18 = (none : Option IntKind) := by kernel_rfl
@[go_sem] theorem tstr_18 : tstr Try.prog 18 = false := by kernel_rfl
@[go_sem] theorem tagg_18 : tagg Try.prog 18 = (some true : Option Bool) := by kernel_rfl
@[go_sem] theorem tby_18 : tby Try.prog 18 = 8 := by kernel_rfl
@[go_sem] theorem tkind_18 : tkind Try.prog 18 = (none : Option Nat) := by kernel_rfl
@[go_sem] theorem teq_18 : teq Try.prog 18 = (none : Option (List Nat)) := by kernel_rfl
@[go_sem] theorem tzA_18 : tzA Try.prog 18 = (some (AV.agg [AV.v (Value.pointer none)]) : Option AV) := by kernel_rfl
@[go_sem] theorem tund_19 : tund Try.prog 19 = true := by kernel_rfl
@[go_sem] theorem tsz_19 : tsz Try.prog 19 = 1 := by kernel_rfl
@[go_sem] theorem tel_19 : tel Try.prog 19 = (none : Option TypeId) := by kernel_rfl
@[go_sem] theorem tarr_19 : tarr Try.prog 19 = (none : Option (Nat × TypeId)) := by kernel_rfl
@[go_sem] theorem tfld_19 : tfld Try.prog 19 = (some [(0, 17)] : Option (List (Nat × TypeId))) := by kernel_rfl
@[go_sem] theorem tint_19 : tint Try.prog 19 = (none : Option IntKind) := by kernel_rfl
@[go_sem] theorem tstr_19 : tstr Try.prog 19 = false := by kernel_rfl
@[go_sem] theorem tagg_19 : tagg Try.prog 19 = (some true : Option Bool) := by kernel_rfl
@[go_sem] theorem tby_19 : tby Try.prog 19 = 8 := by kernel_rfl
@[go_sem] theorem tkind_19 : tkind Try.prog 19 = (none : Option Nat) := by kernel_rfl
@[go_sem] theorem teq_19 : teq Try.prog 19 = (none : Option (List Nat)) := by kernel_rfl
@[go_sem] theorem tzA_19 : tzA Try.prog 19 = (some (AV.agg [AV.v (Value.pointer none)]) : Option AV) := by kernel_rfl
@[go_sem] theorem tund_20 : tund Try.prog 20 = true := by kernel_rfl
@[go_sem] theorem tsz_20 : tsz Try.prog 20 = 1 := by kernel_rfl
@[go_sem] theorem tel_20 : tel Try.prog 20 = (none : Option TypeId) := by kernel_rfl
@[go_sem] theorem tarr_20 : tarr Try.prog 20 = (none : Option (Nat × TypeId)) := by kernel_rfl
@[go_sem] theorem tfld_20 : tfld Try.prog 20 = (none : Option (List (Nat × TypeId))) := by kernel_rfl
@[go_sem] theorem tint_20 : tint Try.prog 20 = (none : Option IntKind) := by kernel_rfl
@[go_sem] theorem tstr_20 : tstr Try.prog 20 = false := by kernel_rfl
@[go_sem] theorem tagg_20 : tagg Try.prog 20 = (some false : Option Bool) := by kernel_rfl
@[go_sem] theorem tby_20 : tby Try.prog 20 = 16 := by kernel_rfl
@[go_sem] theorem tkind_20 : tkind Try.prog 20 = (none : Option Nat) := by kernel_rfl
@[go_sem] theorem teq_20 : teq Try.prog 20 = (none : Option (List Nat)) := by kernel_rfl
@[go_sem] theorem tzA_20 : tzA Try.prog 20 = (some (AV.v Value.nilIface) : Option AV) := by kernel_rfl
@[go_sem] theorem tund_21 : tund Try.prog 21 = true := by kernel_rfl
@[go_sem] theorem tsz_21 : tsz Try.prog 21 = 1 := by kernel_rfl
@[go_sem] theorem tel_21 : tel Try.prog 21 = (none : Option TypeId) := by kernel_rfl
@[go_sem] theorem tarr_21 : tarr Try.prog 21 = (none : Option (Nat × TypeId)) := by kernel_rfl
@[go_sem] theorem tfld_21 : tfld Try.prog 21 = (none : Option (List (Nat × TypeId))) := by kernel_rfl
@[go_sem] theorem tint_21 : tint Try.prog 21 = (some IntKind.i32 : Option IntKind) := by kernel_rfl
@[go_sem] theorem tstr_21 : tstr Try.prog 21 = false := by kernel_rfl
@[go_sem] theorem tagg_21 : tagg Try.prog 21 = (some false : Option Bool) := by kernel_rfl
@[go_sem] theorem tby_21 : tby Try.prog 21 = 4 := by kernel_rfl
@[go_sem] theorem tkind_21 : tkind Try.prog 21 = (some 0 : Option Nat) := by kernel_rfl
@[go_sem] theorem teq_21 : teq Try.prog 21 = (none : Option (List Nat)) := by kernel_rfl
@[go_sem] theorem tzA_21 : tzA Try.prog 21 = (some (AV.v (Value.int IntKind.i32 (0))) : Option AV) := by kernel_rfl
@[go_sem] theorem tund_22 : tund Try.prog 22 = true := by kernel_rfl
@[go_sem] theorem tsz_22 : tsz Try.prog 22 = 1 := by kernel_rfl
@[go_sem] theorem tz_22 : tz Try.prog 22 = some (Value.slice none 0 0) := by kernel_rfl
@[go_sem] theorem tel_22 : tel Try.prog 22 = (some 3 : Option TypeId) := by kernel_rfl
@[go_sem] theorem tarr_22 : tarr Try.prog 22 = (none : Option (Nat × TypeId)) := by kernel_rfl
@[go_sem] theorem tfld_22 : tfld Try.prog 22 = (none : Option (List (Nat × TypeId))) := by kernel_rfl
@[go_sem] theorem tint_22 : tint Try.prog 22 = (none : Option IntKind) := by kernel_rfl
@[go_sem] theorem tstr_22 : tstr Try.prog 22 = false := by kernel_rfl
@[go_sem] theorem tagg_22 : tagg Try.prog 22 = (some false : Option Bool) := by kernel_rfl
@[go_sem] theorem tby_22 : tby Try.prog 22 = 24 := by kernel_rfl
@[go_sem] theorem tkind_22 : tkind Try.prog 22 = (none : Option Nat) := by kernel_rfl
@[go_sem] theorem teq_22 : teq Try.prog 22 = (none : Option (List Nat)) := by kernel_rfl
@[go_sem] theorem tzA_22 : tzA Try.prog 22 = (some (AV.v (Value.slice none 0 0)) : Option AV) := by kernel_rfl
@[go_sem] theorem tund_23 : tund Try.prog 23 = true := by kernel_rfl
@[go_sem] theorem tsz_23 : tsz Try.prog 23 = 1 := by kernel_rfl
@[go_sem] theorem tz_23 : tz Try.prog 23 = some (Value.slice none 0 0) := by kernel_rfl
@[go_sem] theorem tel_23 : tel Try.prog 23 = (some 40 : Option TypeId) := by kernel_rfl
@[go_sem] theorem tarr_23 : tarr Try.prog 23 = (none : Option (Nat × TypeId)) := by kernel_rfl
@[go_sem] theorem tfld_23 : tfld Try.prog 23 = (none : Option (List (Nat × TypeId))) := by kernel_rfl
@[go_sem] theorem tint_23 : tint Try.prog 23 = (none : Option IntKind) := by kernel_rfl
@[go_sem] theorem tstr_23 : tstr Try.prog 23 = false := by kernel_rfl
@[go_sem] theorem tagg_23 : tagg Try.prog 23 = (some false : Option Bool) := by kernel_rfl
@[go_sem] theorem tby_23 : tby Try.prog 23 = 24 := by kernel_rfl
@[go_sem] theorem tkind_23 : tkind Try.prog 23 = (none : Option Nat) := by kernel_rfl
@[go_sem] theorem teq_23 : teq Try.prog 23 = (none : Option (List Nat)) := by kernel_rfl
@[go_sem] theorem tzA_23 : tzA Try.prog 23 = (some (AV.v (Value.slice none 0 0)) : Option AV) := by kernel_rfl
@[go_sem] theorem tund_24 : tund Try.prog 24 = true := by kernel_rfl
@[go_sem] theorem tsz_24 : tsz Try.prog 24 = 1 := by kernel_rfl
@[go_sem] theorem tel_24 : tel Try.prog 24 = (none : Option TypeId) := by kernel_rfl
@[go_sem] theorem tarr_24 : tarr Try.prog 24 = (none : Option (Nat × TypeId)) := by kernel_rfl
@[go_sem] theorem tfld_24 : tfld Try.prog 24 = (none : Option (List (Nat × TypeId))) := by kernel_rfl
@[go_sem] theorem tint_24 : tint Try.prog 24 = (none : Option IntKind) := by kernel_rfl
@[go_sem] theorem tstr_24 : tstr Try.prog 24 = false := by kernel_rfl
@[go_sem] theorem tagg_24 : tagg Try.prog 24 = (some false : Option Bool) := by kernel_rfl
@[go_sem] theorem tby_24 : tby Try.prog 24 = 8 := by kernel_rfl
@[go_sem] theorem tkind_24 : tkind Try.prog 24 = (none : Option Nat) := by kernel_rfl
@[go_sem] theorem teq_24 : teq Try.prog 24 = (none : Option (List Nat)) := by kernel_rfl
@[go_sem] theorem tzA_24 : tzA Try.prog 24 = (some (AV.v Value.nilFunc) : Option AV) := by kernel_rfl
@[go_sem] theorem tund_25 : tund Try.prog 25 = true := by kernel_rfl
@[go_sem] theorem tsz_25 : tsz Try.prog 25 = 1 := by kernel_rfl
@[go_sem] theorem tel_25 : tel Try.prog 25 = (none : Option TypeId) := by kernel_rfl
@[go_sem] theorem tarr_25 : tarr Try.prog 25 = (none : Option (Nat × TypeId)) := by kernel_rfl
@[go_sem] theorem tfld_25 : tfld Try.prog 25 = (none : Option (List (Nat × TypeId))) := by kernel_rfl
@[go_sem] theorem tint_25 : tint Try.prog 25 = (none : Option IntKind) := by kernel_rfl
@[go_sem] theorem tstr_25 : tstr Try.prog 25 = false := by kernel_rfl
@[go_sem] theorem tagg_25 : tagg Try.prog 25 = (some false : Option Bool) := by kernel_rfl
@[go_sem] theorem tby_25 : tby Try.prog 25 = 0 := by kernel_rfl
@[go_sem] theorem tkind_25 : tkind Try.prog 25 = (none : Option Nat) := by kernel_rfl
@[go_sem] theorem teq_25 : teq Try.prog 25 = (none : Option (List Nat)) := by kernel_rfl
@[go_sem] theorem tzA_25 : tzA Try.prog 25 = (some (AV.tup [AV.v (Value.slice none 0 0), AV.v (Value.slice none 0 0), AV.v (Value.int IntKind.i64 (0))]) : Option AV) := by kernel_rfl
@[go_sem] theorem tund_26 : tund Try.prog 26 = true := by kernel_rfl
@[go_sem] theorem tsz_26 : tsz Try.prog 26 = 1 := by kernel_rfl
@[go_sem] theorem tel_26 : tel Try.prog 26 = (none : Option TypeId) := by kernel_rfl
@[go_sem] theorem tarr_26 : tarr Try.prog 26 = (none : Option (Nat × TypeId)) := by kernel_rfl
@[go_sem] theorem tfld_26 : tfld Try.prog 26 = (none : Option (List (Nat × TypeId))) := by kernel_rfl
@[go_sem] theorem tint_26 : tint Try.prog 26 = (none : Option IntKind) := by kernel_rfl
@[go_sem] theorem tstr_26 : tstr Try.prog 26 = false := by kernel_rfl
@[go_sem] theorem tagg_26 : tagg Try.prog 26 = (some false : Option Bool) := by kernel_rfl
@[go_sem] theorem tby_26 : tby Try.prog 26 = 8 := by kernel_rfl
@[go_sem] theorem tkind_26 : tkind Try.prog 26 = (none : Option Nat) := by kernel_rfl
@[go_sem] theorem teq_26 : teq Try.prog 26 = (none : Option (List Nat)) := by kernel_rfl
@[go_sem] theorem tzA_26 : tzA Try.prog 26 = (some (AV.v Value.nilFunc) : Option AV) := by kernel_rfl
@[go_sem] theorem tund_27 : tund Try.prog 27 = true := by kernel_rfl
@[go_sem] theorem tsz_27 : tsz Try.prog 27 = 1 := by kernel_rfl
@[go_sem] theorem tel_27 : tel Try.prog 27 = (none : Option TypeId) := by kernel_rfl
@[go_sem] theorem tarr_27 : tarr Try.prog 27 = (none : Option (Nat × TypeId)) := by kernel_rfl
@[go_sem] theorem tfld_27 : tfld Try.prog 27 = (none : Option (List (Nat × TypeId))) := by kernel_rfl
@[go_sem] theorem tint_27 : tint Try.prog 27 = (none : Option IntKind) := by kernel_rfl
@[go_sem] theorem tstr_27 : tstr Try.prog 27 = false := by kernel_rfl
@[go_sem] theorem tagg_27 : tagg Try.prog 27 = (some false : Option Bool) := by kernel_rfl
@[go_sem] theorem tby_27 : tby Try.prog 27 = 8 := by kernel_rfl
@[go_sem] theorem tkind_27 : tkind Try.prog 27 = (none : Option Nat) := by kernel_rfl
@[go_sem] theorem teq_27 : teq Try.prog 27 = (none : Option (List Nat)) := by kernel_rfl
@[go_sem] theorem tzA_27 : tzA Try.prog 27 = (some (AV.v Value.nilFunc) : Option AV) := by kernel_rfl
@[go_sem] theorem tund_28 : tund Try.prog 28 = true := by kernel_rfl
@[go_sem] theorem tsz_28 : tsz Try.prog 28 = 1 := by kernel_rfl
@[go_sem] theorem tz_28 : tz Try.prog 28 = some (Value.slice none 0 0) := by kernel_rfl
@[go_sem] theorem tel_28 : tel Try.prog 28 = (some 22 : Option TypeId) := by kernel_rfl
@[go_sem] theorem tarr_28 : tarr Try.prog 28 = (none : Option (Nat × TypeId)) := by kernel_rfl
@[go_sem] theorem tfld_28 : tfld Try.prog 28 = (none : Option (List (Nat × TypeId))) := by kernel_rfl
@[go_sem] theorem tint_28 : tint Try.prog 28 = (none : Option IntKind) := by kernel_rfl
@[go_sem] theorem tstr_28 : tstr Try.prog 28 = false := by kernel_rfl
@[go_sem] theorem tagg_28 : tagg Try.prog 28 = (some false : Option Bool) := by kernel_rfl
@[go_sem] theorem tby_28 : tby Try.prog 28 = 24 := by kernel_rfl
@[go_sem] theorem tkind_28 : tkind Try.prog 28 = (none : Option Nat) := by kernel_rfl
@[go_sem] theorem teq_28 : teq Try.prog 28 = (none : Option (List Nat)) := by kernel_rfl
@[go_sem] theorem tzA_28 : tzA Try.prog 28 = (some (AV.v (Value.slice none 0 0)) : Option AV) := by kernel_rfl
@[go_sem] theorem tund_29 : tund Try.prog 29 = true := by kernel_rfl
@[go_sem] theorem tsz_29 : tsz Try.prog 29 = 1 := by kernel_rfl
@[go_sem] theorem tel_29 : tel Try.prog 29 = (none : Option TypeId) := by kernel_rfl
@[go_sem] theorem tarr_29 : tarr Try.prog 29 = (none : Option (Nat × TypeId)) := by kernel_rfl
@[go_sem] theorem tfld_29 : tfld Try.prog 29 = (none : Option (List (Nat × TypeId))) := by kernel_rfl
@[go_sem] theorem tint_29 : tint Try.prog 29 = (none : Option IntKind) := by kernel_rfl
@[go_sem] theorem tstr_29 : tstr Try.prog 29 = false := by kernel_rfl
@[go_sem] theorem tagg_29 : tagg Try.prog 29 = (some false : Option Bool) := by kernel_rfl
@[go_sem] theorem tby_29 : tby Try.prog 29 = 8 := by kernel_rfl
@[go_sem] theorem tkind_29 : tkind Try.prog 29 = (none : Option Nat) := by kernel_rfl
@[go_sem] theorem teq_29 : teq Try.prog 29 = (none : Option (List Nat)) := by kernel_rfl
@[go_sem] theorem tzA_29 : tzA Try.prog 29 = (some (AV.v Value.nilFunc) : Option AV) := by kernel_rfl
@[go_sem] theorem tund_30 : tund Try.prog 30 = true := by kernel_rfl
@[go_sem] theorem tsz_30 : tsz Try.prog 30 = 1 := by kernel_rfl
@[go_sem] theorem tel_30 : tel Try.prog 30 = (none : Option TypeId) := by kernel_rfl
@[go_sem] theorem tarr_30 : tarr Try.prog 30 = (none : Option (Nat × TypeId)) := by kernel_rfl
@[go_sem] theorem tfld_30 : tfld Try.prog 30 = (none : Option (List (Nat × TypeId))) := by kernel_rfl
@[go_sem] theorem tint_30 : tint Try.prog 30 = (some IntKind.i64 : Option IntKind) := by kernel_rfl
@[go_sem] theorem tstr_30 : tstr Try.prog 30 = false := by kernel_rfl
@[go_sem] theorem tagg_30 : tagg Try.prog 30 = (some false : Option Bool) := by kernel_rfl
@[go_sem] theorem tby_30 : tby Try.prog 30 = 8 := by kernel_rfl
@[go_sem] theorem tkind_30 : tkind Try.prog 30 = (some 0 : Option Nat) := by kernel_rfl
@[go_sem] theorem teq_30 : teq Try.prog 30 = (none : Option (List Nat)) := by kernel_rfl
@[go_sem] theorem tzA_30 : tzA Try.prog 30 = (some (AV.v (Value.int IntKind.i64 (0))) : Option AV) := by kernel_rfl
@[go_sem] theorem tund_31 : tund Try.prog 31 = true := by kernel_rfl
@[go_sem] theorem tsz_31 : tsz Try.prog 31 = 1 := by kernel_rfl
@[go_sem] theorem tel_31 : tel Try.prog 31 = (none : Option TypeId) := by kernel_rfl
@[go_sem] theorem tarr_31 : tarr Try.prog 31 = (none : Option (Nat × TypeId)) := by kernel_rfl
@[go_sem] theorem tfld_31 : tfld Try.prog 31 = (none : Option (List (Nat × TypeId))) := by kernel_rfl
@[go_sem] theorem tint_31 : tint Try.prog 31 = (none : Option IntKind) := by kernel_rfl
@[go_sem] theorem tstr_31 : tstr Try.prog 31 = false := by kernel_rfl
@[go_sem] theorem tagg_31 : tagg Try.prog 31 = (some false : Option Bool) := by kernel_rfl
@[go_sem] theorem tby_31 : tby Try.prog 31 = 0 := by kernel_rfl
@[go_sem] theorem tkind_31 : tkind Try.prog 31 = (none : Option Nat) := by kernel_rfl
@[go_sem] theorem teq_31 : teq Try.prog 31 = (none : Option (List Nat)) := by kernel_rfl
@[go_sem] theorem tzA_31 : tzA Try.prog 31 = (some (AV.tup [AV.v (Value.slice none 0 0), AV.v (Value.int IntKind.i64 (0)), AV.v (Value.int IntKind.i64 (0))]) : Option AV) := by kernel_rfl
@[go_sem] theorem tund_32 : tund Try.prog 32 = true := by kernel_rfl
@[go_sem] theorem tsz_32 : tsz Try.prog 32 = 1 := by kernel_rfl
@[go_sem] theorem tel_32 : tel Try.prog 32 = (none : Option TypeId) := by kernel_rfl
@[go_sem] theorem tarr_32 : tarr Try.prog 32 = (none : Option (Nat × TypeId)) := by kernel_rfl
@[go_sem] theorem tfld_32 : tfld Try.prog 32 = (none : Option (List (Nat × TypeId))) := by kernel_rfl
@[go_sem] theorem tint_32 : tint Try.prog 32 = (none : Option IntKind) := by kernel_rfl
@[go_sem] theorem tstr_32 : tstr Try.prog 32 = false := by kernel_rfl
@[go_sem] theorem tagg_32 : tagg Try.prog 32 = (some false : Option Bool) := by kernel_rfl
@[go_sem] theorem tby_32 : tby Try.prog 32 = 8 := by kernel_rfl
@[go_sem] theorem tkind_32 : tkind Try.prog 32 = (none : Option Nat) := by kernel_rfl
@[go_sem] theorem teq_32 : teq Try.prog 32 = (none : Option (List Nat)) := by kernel_rfl
@[go_sem] theorem tzA_32 : tzA Try.prog 32 = (some (AV.v Value.nilFunc) : Option AV) := by kernel_rfl
@[go_sem] theorem tund_33 : tund Try.prog 33 = true := by kernel_rfl
@[go_sem] theorem tsz_33 : tsz Try.prog 33 = 1 := by kernel_rfl
@[go_sem] theorem tel_33 : tel Try.prog 33 = (none : Option TypeId) := by kernel_rfl
@[go_sem] theorem tarr_33 : tarr Try.prog 33 = (none : Option (Nat × TypeId)) := by kernel_rfl
@[go_sem] theorem tfld_33 : tfld Try.prog 33 = (none : Option (List (Nat × TypeId))) := by kernel_rfl
@[go_sem] theorem tint_33 : tint Try.prog 33 = (none : Option IntKind) := by kernel_rfl
@[go_sem] theorem tstr_33 : tstr Try.prog 33 = false := by kernel_rfl
@[go_sem] theorem tagg_33 : tagg Try.prog 33 = (some false : Option Bool) := by kernel_rfl
@[go_sem] theorem tby_33 : tby Try.prog 33 = 0 := by kernel_rfl
@[go_sem] theorem tkind_33 : tkind Try.prog 33 = (none : Option Nat) := by kernel_rfl
@[go_sem] theorem teq_33 : teq Try.prog 33 = (none : Option (List Nat)) := by kernel_rfl
@[go_sem] theorem tzA_33 : tzA Try.prog 33 = (some (AV.tup [AV.v (Value.slice none 0 0), AV.v (Value.int IntKind.i64 (0))]) : Option AV) := by kernel_rfl
@[go_sem] theorem tund_34 : tund Try.prog 34 = true := by kernel_rfl
@[go_sem] theorem tsz_34 : tsz Try.prog 34 = 1 := by kernel_rfl
@[go_sem] theorem tel_34 : tel Try.prog 34 = (none : Option TypeId) := by kernel_rfl
@[go_sem] theorem tarr_34 : tarr Try.prog 34 = (none : Option (Nat × TypeId)) := by kernel_rfl
@[go_sem] theorem tfld_34 : tfld Try.prog 34 = (none : Option (List (Nat × TypeId))) := by kernel_rfl
@[go_sem] theorem tint_34 : tint Try.prog 34 = (none : Option IntKind) := by kernel_rfl
@[go_sem] theorem tstr_34 : tstr Try.prog 34 = false := by kernel_rfl
@[go_sem] theorem tagg_34 : tagg Try.prog 34 = (some false : Option Bool) := by kernel_rfl
@[go_sem] theorem tby_34 : tby Try.prog 34 = 8 := by kernel_rfl
@[go_sem] theorem tkind_34 : tkind Try.prog 34 = (none : Option Nat) := by kernel_rfl
@[go_sem] theorem teq_34 : teq Try.prog 34 = (none : Option (List Nat)) := by kernel_rfl
@[go_sem] theorem tzA_34 : tzA Try.prog 34 = (some (AV.v Value.nilFunc) : Option AV) := by kernel_rfl
@[go_sem] theorem tund_35 : tund Try.prog 35 = true := by kernel_rfl
@[go_sem] theorem tsz_35 : tsz Try.prog 35 = 1 := by kernel_rfl
@[go_sem] theorem tel_35 : tel Try.prog 35 = (none : Option TypeId) := by kernel_rfl
@[go_sem] theorem tarr_35 : tarr Try.prog 35 = (none : Option (Nat × TypeId)) := by kernel_rfl
@[go_sem] theorem tfld_35 : tfld Try.prog 35 = (none : Option (List (Nat × TypeId))) := by kernel_rfl
@[go_sem] theorem tint_35 : tint Try.prog 35 = (none : Option IntKind) := by kernel_rfl
@[go_sem] theorem tstr_35 : tstr Try.prog 35 = false := by kernel_rfl
@[go_sem] theorem tagg_35 : tagg Try.prog 35 = (some false : Option Bool) := by kernel_rfl
@[go_sem] theorem tby_35 : tby Try.prog 35 = 8 := by kernel_rfl
@[go_sem] theorem tkind_35 : tkind Try.prog 35 = (none : Option Nat) := by kernel_rfl
@[go_sem] theorem teq_35 : teq Try.prog 35 = (none : Option (List Nat)) := by kernel_rfl
@[go_sem] theorem tzA_35 : tzA Try.prog 35 = (some (AV.v Value.nilFunc) : Option AV) := by kernel_rfl
@[go_sem] theorem tund_36 : tund Try.prog 36 = true := by kernel_rfl
@[go_sem] theorem tsz_36 : tsz Try.prog 36 = 1 := by kernel_rfl
@[go_sem] theorem tel_36 : tel Try.prog 36 = (none : Option TypeId) := by kernel_rfl
@[go_sem] theorem tarr_36 : tarr Try.prog 36 = (none : Option (Nat × TypeId)) := by kernel_rfl
@[go_sem] theorem tfld_36 : tfld Try.prog 36 = (none : Option (List (Nat × TypeId))) := by kernel_rfl
@[go_sem] theorem tint_36 : tint Try.prog 36 = (none : Option IntKind) := by kernel_rfl
@[go_sem] theorem tstr_36 : tstr Try.prog 36 = false := by kernel_rfl
@[go_sem] theorem tagg_36 : tagg Try.prog 36 = (some false : Option Bool) := by kernel_rfl
@[go_sem] theorem tby_36 : tby Try.prog 36 = 8 := by kernel_rfl
@[go_sem] theorem tkind_36 : tkind Try.prog 36 = (none : Option Nat) := by kernel_rfl
@[go_sem] theorem teq_36 : teq Try.prog 36 = (none : Option (List Nat)) := by kernel_rfl
@[go_sem] theorem tzA_36 : tzA Try.prog 36 = (some (AV.v Value.nilFunc) : Option AV) := by kernel_rfl
@[go_sem] theorem tund_37 : tund Try.prog 37 = true := by kernel_rfl
@[go_sem] theorem tsz_37 : tsz Try.prog 37 = 1 := by kernel_rfl
@[go_sem] theorem tel_37 : tel Try.prog 37 = (none : Option TypeId) := by kernel_rfl
@[go_sem] theorem tarr_37 : tarr Try.prog 37 = (none : Option (Nat × TypeId)) := by kernel_rfl
@[go_sem] theorem tfld_37 : tfld Try.prog 37 = (none : Option (List (Nat × TypeId))) := by kernel_rfl
@[go_sem] theorem tint_37 : tint Try.prog 37 = (none : Option IntKind) := by kernel_rfl
@[go_sem] theorem tstr_37 : tstr Try.prog 37 = false := by kernel_rfl
@[go_sem] theorem tagg_37 : tagg Try.prog 37 = (some false : Option Bool) := by kernel_rfl
@[go_sem] theorem tby_37 : tby Try.prog 37 = 0 := by kernel_rfl
@[go_sem] theorem tkind_37 : tkind Try.prog 37 = (none : Option Nat) := by kernel_rfl
@[go_sem] theorem teq_37 : teq Try.prog 37 = (none : Option (List Nat)) := by kernel_rfl
@[go_sem] theorem tzA_37 : tzA Try.prog 37 = (some (AV.tup [AV.v (Value.int IntKind.i64 (0)), AV.v (Value.int IntKind.i64 (0)), AV.v (Value.int IntKind.i64 (0)), AV.v (Value.int IntKind.i64 (0))]) : Option AV) := by kernel_rfl
@[go_sem] theorem tund_38 : tund Try.prog 38 = true := by kernel_rfl
@[go_sem] theorem tsz_38 : tsz Try.prog 38 = 1 := by kernel_rfl
@[go_sem] theorem tel_38 : tel Try.prog 38 = (none : Option TypeId) := by kernel_rfl
@[go_sem] theorem tarr_38 : tarr Try.prog 38 = (none : Option (Nat × TypeId)) := by kernel_rfl
@[go_sem] theorem tfld_38 : tfld Try.prog 38 = (none : Option (List (Nat × TypeId))) := by kernel_rfl
@[go_sem] theorem tint_38 : tint Try.prog 38 = (none : Option IntKind) := by kernel_rfl
@[go_sem] theorem tstr_38 : tstr Try.prog 38 = false := by kernel_rfl
@[go_sem] theorem tagg_38 : tagg Try.prog 38 = (some false : Option Bool) := by kernel_rfl
@[go_sem] theorem tby_38 : tby Try.prog 38 = 8 := by kernel_rfl
@[go_sem] theorem tkind_38 : tkind Try.prog 38 = (none : Option Nat) := by kernel_rfl
@[go_sem] theorem teq_38 : teq Try.prog 38 = (none : Option (List Nat)) := by kernel_rfl
@[go_sem] theorem tzA_38 : tzA Try.prog 38 = (some (AV.v Value.nilFunc) : Option AV) := by kernel_rfl
@[go_sem] theorem tund_39 : tund Try.prog 39 = true := by kernel_rfl
@[go_sem] theorem tsz_39 : tsz Try.prog 39 = 2 := by kernel_rfl
@[go_sem] theorem tel_39 : tel Try.prog 39 = (none : Option TypeId) := by kernel_rfl
@[go_sem] theorem tarr_39 : tarr Try.prog 39 = (none : Option (Nat × TypeId)) := by kernel_rfl
@[go_sem] theorem tfld_39 : tfld Try.prog 39 = (some [(0, 3), (1, 3)] : Option (List (Nat × TypeId))) := by kernel_rfl
@[go_sem] theorem tint_39 : tint Try.prog 39 = (none : Option IntKind) := by kernel_rfl
@[go_sem] theorem tstr_39 : tstr Try.prog 39 = false := by kernel_rfl
@[go_sem] theorem tagg_39 : tagg Try.prog 39 = (some true : Option Bool) := by kernel_rfl
@[go_sem] theorem tby_39 : tby Try.prog 39 = 16 := by kernel_rfl
@[go_sem] theorem tkind_39 : tkind Try.prog 39 = (none : Option Nat) := by kernel_rfl
@[go_sem] theorem teq_39 : teq Try.prog 39 = (some [0, 0] : Option (List Nat)) := by kernel_rfl
@[go_sem] theorem tzA_39 : tzA Try.prog 39 = (some (AV.agg [AV.v (Value.int IntKind.i64 (0)), AV.v (Value.int IntKind.i64 (0))]) : Option AV) := by kernel_rfl
@[go_sem] theorem tund_40 : tund Try.prog 40 = true := by kernel_rfl
@[go_sem] theorem tsz_40 : tsz Try.prog 40 = 2 := by kernel_rfl
@[go_sem] theorem tel_40 : tel Try.prog 40 = (none : Option TypeId) := by kernel_rfl
@[go_sem] theorem tarr_40 : tarr Try.prog 40 = (none : Option (Nat × TypeId)) := by kernel_rfl
@[go_sem] theorem tfld_40 : tfld Try.prog 40 = (some [(0, 3), (1, 3)] : Option (List (Nat × TypeId))) := by kernel_rfl
@[go_sem] theorem tint_40 : tint Try.prog 40 = (none : Option IntKind) := by kernel_rfl
@[go_sem] theorem tstr_40 : tstr Try.prog 40 = false := by kernel_rfl
@[go_sem] theorem tagg_40 : tagg Try.prog 40 = (some true : Option Bool) := by kernel_rfl
@[go_sem] theorem tby_40 : tby Try.prog 40 = 16 := by kernel_rfl
@[go_sem] theorem tkind_40 : tkind Try.prog 40 = (none : Option Nat) := by kernel_rfl
@[go_sem] theorem teq_40 : teq Try.prog 40 = (some [0, 0] : Option (List Nat)) := by kernel_rfl
@[go_sem] theorem tzA_40 : tzA Try.prog 40 = (some (AV.agg [AV.v (Value.int IntKind.i64 (0)), AV.v (Value.int IntKind.i64 (0))]) : Option AV) := by kernel_rfl
@[go_sem] theorem tund_41 : tund Try.prog 41 = true := by kernel_rfl
@[go_sem] theorem tsz_41 : tsz Try.prog 41 = 1 := by kernel_rfl
@[go_sem] theorem tz_41 : tz Try.prog 41 = some (Value.slice none 0 0) := by kernel_rfl
@[go_sem] theorem tel_41 : tel Try.prog 41 = (some 23 : Option TypeId) := by kernel_rfl
@[go_sem] theorem tarr_41 : tarr Try.prog 41 = (none : Option (Nat × TypeId)) := by kernel_rfl
@[go_sem] theorem tfld_41 : tfld Try.prog 41 = (none : Option (List (Nat × TypeId))) := by kernel_rfl
@[go_sem] theorem tint_41 : tint Try.prog 41 = (none : Option IntKind) := by kernel_rfl
@[go_sem] theorem tstr_41 : tstr Try.prog 41 = false := by kernel_rfl
@[go_sem] theorem tagg_41 : tagg Try.prog 41 = (some false : Option Bool) := by kernel_rfl
@[go_sem] theorem tby_41 : tby Try.prog 41 = 24 := by kernel_rfl
@[go_sem] theorem tkind_41 : tkind Try.prog 41 = (none : Option Nat) := by kernel_rfl
@[go_sem] theorem teq_41 : teq Try.prog 41 = (none : Option (List Nat)) := by kernel_rfl
@[go_sem] theorem tzA_41 : tzA Try.prog 41 = (some (AV.v (Value.slice none 0 0)) : Option AV) := by kernel_rfl
@[go_sem] theorem tund_42 : tund Try.prog 42 = true := by kernel_rfl
@[go_sem] theorem tsz_42 : tsz Try.prog 42 = 1 := by kernel_rfl
@[go_sem] theorem tel_42 : tel Try.prog 42 = (none : Option TypeId) := by kernel_rfl
@[go_sem] theorem tarr_42 : tarr Try.prog 42 = (none : Option (Nat × TypeId)) := by kernel_rfl
@[go_sem] theorem tfld_42 : tfld Try.prog 42 = (none : Option (List (Nat × TypeId))) := by kernel_rfl
@[go_sem] theorem tint_42 : tint Try.prog 42 = (none : Option IntKind) := by kernel_rfl
@[go_sem] theorem tstr_42 : tstr Try.prog 42 = false := by kernel_rfl
@[go_sem] theorem tagg_42 : tagg Try.prog 42 = (some false : Option Bool) := by kernel_rfl
@[go_sem] theorem tby_42 : tby Try.prog 42 = 8 := by kernel_rfl
@[go_sem] theorem tkind_42 : tkind Try.prog 42 = (none : Option Nat) := by kernel_rfl
@[go_sem] theorem teq_42 : teq Try.prog 42 = (none : Option (List Nat)) := by kernel_rfl
@[go_sem] theorem tzA_42 : tzA Try.prog 42 = (some (AV.v Value.nilFunc) : Option AV) := by kernel_rfl
@[go_sem] theorem tund_43 : tund Try.prog 43 = true := by kernel_rfl
@[go_sem] theorem tsz_43 : tsz Try.prog 43 = 1 := by kernel_rfl
@[go_sem] theorem tel_43 : tel Try.prog 43 = (none : Option TypeId) := by kernel_rfl
@[go_sem] theorem tarr_43 : tarr Try.prog 43 = (none : Option (Nat × TypeId)) := by kernel_rfl
@[go_sem] theorem tfld_43 : tfld Try.prog 43 = (none : Option (List (Nat × TypeId))) := by kernel_rfl
@[go_sem] theorem tint_43 : tint Try.prog 43 = (none : Option IntKind) := by kernel_rfl
@[go_sem] theorem tstr_43 : tstr Try.prog 43 = false := by kernel_rfl
@[go_sem] theorem tagg_43 : tagg Try.prog 43 = (some false : Option Bool) := by kernel_rfl
@[go_sem] theorem tby_43 : tby Try.prog 43 = 8 := by kernel_rfl
@[go_sem] theorem tkind_43 : tkind Try.prog 43 = (none : Option Nat) := by kernel_rfl
@[go_sem] theorem teq_43 : teq Try.prog 43 = (none : Option (List Nat)) := by kernel_rfl
@[go_sem] theorem tzA_43 : tzA Try.prog 43 = (some (AV.v Value.nilFunc) : Option AV) := by kernel_rfl
@[go_sem] theorem tund_44 : tund Try.prog 44 = true := by kernel_rfl
@[go_sem] theorem tsz_44 : tsz Try.prog 44 = 1 := by kernel_rfl
@[go_sem] theorem tel_44 : tel Try.prog 44 = (none : Option TypeId) := by kernel_rfl
@[go_sem] theorem tarr_44 : tarr Try.prog 44 = (none : Option (Nat × TypeId)) := by kernel_rfl
@[go_sem] theorem tfld_44 : tfld Try.prog 44 = (none : Option (List (Nat × TypeId))) := by kernel_rfl
@[go_sem] theorem tint_44 : tint Try.prog 44 = (none : Option IntKind) := by kernel_rfl
@[go_sem] theorem tstr_44 : tstr Try.prog 44 = false := by kernel_rfl
@[go_sem] theorem tagg_44 : tagg Try.prog 44 = (some false : Option Bool) := by kernel_rfl
@[go_sem] theorem tby_44 : tby Try.prog 44 = 8 := by kernel_rfl
@[go_sem] theorem tkind_44 : tkind Try.prog 44 = (none : Option Nat) := by kernel_rfl
@[go_sem] theorem teq_44 : teq Try.prog 44 = (none : Option (List Nat)) := by kernel_rfl
@[go_sem] theorem tzA_44 : tzA Try.prog 44 = (some (AV.v Value.nilFunc) : Option AV) := by kernel_rfl
@[go_sem] theorem tund_45 : tund Try.prog 45 = true := by kernel_rfl
@[go_sem] theorem tsz_45 : tsz Try.prog 45 = 1 := by kernel_rfl
@[go_sem] theorem tel_45 : tel Try.prog 45 = (none : Option TypeId) := by kernel_rfl
@[go_sem] theorem tarr_45 : tarr Try.prog 45 = (none : Option (Nat × TypeId)) := by kernel_rfl
@[go_sem] theorem tfld_45 : tfld Try.prog 45 = (none : Option (List (Nat × TypeId))) := by kernel_rfl
@[go_sem] theorem tint_45 : tint Try.prog 45 = (none : Option IntKind) := by kernel_rfl
@[go_sem] theorem tstr_45 : tstr Try.prog 45 = false := by kernel_rfl
@[go_sem] theorem tagg_45 : tagg Try.prog 45 = (some false : Option Bool) := by kernel_rfl
@[go_sem] theorem tby_45 : tby Try.prog 45 = 8 := by kernel_rfl
@[go_sem] theorem tkind_45 : tkind Try.prog 45 = (none : Option Nat) := by kernel_rfl
@[go_sem] theorem teq_45 : teq Try.prog 45 = (none : Option (List Nat)) := by kernel_rfl
@[go_sem] theorem tzA_45 : tzA Try.prog 45 = (some (AV.v Value.nilFunc) : Option AV) := by kernel_rfl
@[go_sem] theorem tund_46 : tund Try.prog 46 = true := by kernel_rfl
@[go_sem] theorem tsz_46 : tsz Try.prog 46 = 1 := by kernel_rfl
@[go_sem] theorem tel_46 : tel Try.prog 46 = (none : Option TypeId) := by kernel_rfl
@[go_sem] theorem tarr_46 : tarr Try.prog 46 = (none : Option (Nat × TypeId)) := by kernel_rfl
@[go_sem] theorem tfld_46 : tfld Try.prog 46 = (none : Option (List (Nat × TypeId))) := by kernel_rfl
@[go_sem] theorem tint_46 : tint Try.prog 46 = (none : Option IntKind) := by kernel_rfl
@[go_sem] theorem tstr_46 : tstr Try.prog 46 = false := by kernel_rfl
@[go_sem] theorem tagg_46 : tagg Try.prog 46 = (some false : Option Bool) := by kernel_rfl
@[go_sem] theorem tby_46 : tby Try.prog 46 = 8 := by kernel_rfl
@[go_sem] theorem tkind_46 : tkind Try.prog 46 = (none : Option Nat) := by kernel_rfl
@[go_sem] theorem teq_46 : teq Try.prog 46 = (none : Option (List Nat)) := by kernel_rfl
@[go_sem] theorem tzA_46 : tzA Try.prog 46 = (some (AV.v Value.nilFunc) : Option AV) := by kernel_rfl
@[go_sem] theorem tund_47 : tund Try.prog 47 = true := by kernel_rfl
@[go_sem] theorem tsz_47 : tsz Try.prog 47 = 1 := by kernel_rfl
@[go_sem] theorem tel_47 : tel Try.prog 47 = (none : Option TypeId) := by kernel_rfl
@[go_sem] theorem tarr_47 : tarr Try.prog 47 = (none : Option (Nat × TypeId)) := by kernel_rfl
@[go_sem] theorem tfld_47 : tfld Try.prog 47 = (none : Option (List (Nat × TypeId))) := by kernel_rfl
@[go_sem] theorem tint_47 : tint Try.prog 47 = (none : Option IntKind) := by kernel_rfl
@[go_sem] theorem tstr_47 : tstr Try.prog 47 = false := by kernel_rfl
@[go_sem] theorem tagg_47 : tagg Try.prog 47 = (some false : Option Bool) := by kernel_rfl
@[go_sem] theorem tby_47 : tby Try.prog 47 = 8 := by kernel_rfl
@[go_sem] theorem tkind_47 : tkind Try.prog 47 = (none : Option Nat) := by kernel_rfl
@[go_sem] theorem teq_47 : teq Try.prog 47 = (none : Option (List Nat)) := by kernel_rfl
@[go_sem] theorem tzA_47 : tzA Try.prog 47 = (some (AV.v Value.nilFunc) : Option AV) := by kernel_rfl
@[go_sem] theorem tund_48 : tund Try.prog 48 = true := by kernel_rfl
@[go_sem] theorem tsz_48 : tsz Try.prog 48 = 1 := by kernel_rfl
@[go_sem] theorem tel_48 : tel Try.prog 48 = (none : Option TypeId) := by kernel_rfl
@[go_sem] theorem tarr_48 : tarr Try.prog 48 = (none : Option (Nat × TypeId)) := by kernel_rfl
@[go_sem] theorem tfld_48 : tfld Try.prog 48 = (none : Option (List (Nat × TypeId))) := by kernel_rfl
@[go_sem] theorem tint_48 : tint Try.prog 48 = (none : Option IntKind) := by kernel_rfl
@[go_sem] theorem tstr_48 : tstr Try.prog 48 = false := by kernel_rfl
@[go_sem] theorem tagg_48 : tagg Try.prog 48 = (some false : Option Bool) := by kernel_rfl
@[go_sem] theorem tby_48 : tby Try.prog 48 = 8 := by kernel_rfl
@[go_sem] theorem tkind_48 : tkind Try.prog 48 = (none : Option Nat) := by kernel_rfl
@[go_sem] theorem teq_48 : teq Try.prog 48 = (none : Option (List Nat)) := by kernel_rfl
@[go_sem] theorem tzA_48 : tzA Try.prog 48 = (some (AV.v Value.nilFunc) : Option AV) := by kernel_rfl
@[go_sem] theorem tund_49 : tund Try.prog 49 = true := by kernel_rfl
@[go_sem] theorem tsz_49 : tsz Try.prog 49 = 1 := by kernel_rfl
@[go_sem] theorem tel_49 : tel Try.prog 49 = (none : Option TypeId) := by kernel_rfl
@[go_sem] theorem tarr_49 : tarr Try.prog 49 = (none : Option (Nat × TypeId)) := by kernel_rfl
@[go_sem] theorem tfld_49 : tfld Try.prog 49 = (none : Option (List (Nat × TypeId))) := by kernel_rfl
@[go_sem] theorem tint_49 : tint Try.prog 49 = (none : Option IntKind) := by kernel_rfl
@[go_sem] theorem tstr_49 : tstr Try.prog 49 = false := by kernel_rfl
@[go_sem] theorem tagg_49 : tagg Try.prog 49 = (some false : Option Bool) := by kernel_rfl
@[go_sem] theorem tby_49 : tby Try.prog 49 = 8 := by kernel_rfl
@[go_sem] theorem tkind_49 : tkind Try.prog 49 = (none : Option Nat) := by kernel_rfl
@[go_sem] theorem teq_49 : teq Try.prog 49 = (none : Option (List Nat)) := by kernel_rfl
@[go_sem] theorem tzA_49 : tzA Try.prog 49 = (some (AV.v Value.nilFunc) : Option AV) := by kernel_rfl
@[go_sem] theorem tund_50 : tund Try.prog 50 = true := by kernel_rfl
@[go_sem] theorem tsz_50 : tsz Try.prog 50 = 1 := by kernel_rfl
@[go_sem] theorem tel_50 : tel Try.prog 50 = (none : Option TypeId) := by kernel_rfl
@[go_sem] theorem tarr_50 : tarr Try.prog 50 = (none : Option (Nat × TypeId)) := by kernel_rfl
@[go_sem] theorem tfld_50 : tfld Try.prog 50 = (none : Option (List (Nat × TypeId))) := by kernel_rfl
@[go_sem] theorem tint_50 : tint Try.prog 50 = (none : Option IntKind) := by kernel_rfl
@[go_sem] theorem tstr_50 : tstr Try.prog 50 = false := by kernel_rfl
@[go_sem] theorem tagg_50 : tagg Try.prog 50 = (some false : Option Bool) := by kernel_rfl
@[go_sem] theorem tby_50 : tby Try.prog 50 = 0 := by kernel_rfl
@[go_sem] theorem tkind_50 : tkind Try.prog 50 = (none : Option Nat) := by kernel_rfl
@[go_sem] theorem teq_50 : teq Try.prog 50 = (none : Option (List Nat)) := by kernel_rfl
@[go_sem] theorem tzA_50 : tzA Try.prog 50 = (some (AV.tup [AV.v (Value.slice none 0 0), AV.v (Value.slice none 0 0)]) : Option AV) := by kernel_rfl
@[go_sem] theorem tund_51 : tund Try.prog 51 = true := by kernel_rfl
@[go_sem] theorem tsz_51 : tsz Try.prog 51 = 1 := by kernel_rfl
@[go_sem] theorem tel_51 : tel Try.prog 51 = (none : Option TypeId) := by kernel_rfl
@[go_sem] theorem tarr_51 : tarr Try.prog 51 = (none : Option (Nat × TypeId)) := by kernel_rfl
@[go_sem] theorem tfld_51 : tfld Try.prog 51 = (none : Option (List (Nat × TypeId))) := by kernel_rfl
@[go_sem] theorem tint_51 : tint Try.prog 51 = (none : Option IntKind) := by kernel_rfl
@[go_sem] theorem tstr_51 : tstr Try.prog 51 = false := by kernel_rfl
@[go_sem] theorem tagg_51 : tagg Try.prog 51 = (some false : Option Bool) := by kernel_rfl
@[go_sem] theorem tby_51 : tby Try.prog 51 = 8 := by kernel_rfl
@[go_sem] theorem tkind_51 : tkind Try.prog 51 = (none : Option Nat) := by kernel_rfl
@[go_sem] theorem teq_51 : teq Try.prog 51 = (none : Option (List Nat)) := by kernel_rfl
@[go_sem] theorem tzA_51 : tzA Try.prog 51 = (some (AV.v Value.nilFunc) : Option AV) := by kernel_rfl
@[go_sem] theorem tund_52 : tund Try.prog 52 = true := by kernel_rfl
@[go_sem] theorem tsz_52 : tsz Try.prog 52 = 1 := by kernel_rfl
@[go_sem] theorem tel_52 : tel Try.prog 52 = (none : Option TypeId) := by kernel_rfl
@[go_sem] theorem tarr_52 : tarr Try.prog 52 = (none : Option (Nat × TypeId)) := by kernel_rfl
@[go_sem] theorem tfld_52 : tfld Try.prog 52 = (none : Option (List (Nat × TypeId))) := by kernel_rfl
@[go_sem] theorem tint_52 : tint Try.prog 52 = (none : Option IntKind) := by kernel_rfl
@[go_sem] theorem tstr_52 : tstr Try.prog 52 = false := by kernel_rfl
@[go_sem] theorem tagg_52 : tagg Try.prog 52 = (some false : Option Bool) := by kernel_rfl
@[go_sem] theorem tby_52 : tby Try.prog 52 = 8 := by kernel_rfl
@[go_sem] theorem tkind_52 : tkind Try.prog 52 = (none : Option Nat) := by kernel_rfl
@[go_sem] theorem teq_52 : teq Try.prog 52 = (none : Option (List Nat)) := by kernel_rfl
@[go_sem] theorem tzA_52 : tzA Try.prog 52 = (some (AV.v Value.nilFunc) : Option AV) := by kernel_rfl
@[go_sem] theorem tund_53 : tund Try.prog 53 = true := by kernel_rfl
@[go_sem] theorem tsz_53 : tsz Try.prog 53 = 1 := by kernel_rfl
@[go_sem] theorem tel_53 : tel Try.prog 53 = (none : Option TypeId) := by kernel_rfl
@[go_sem] theorem tarr_53 : tarr Try.prog 53 = (none : Option (Nat × TypeId)) := by kernel_rfl
@[go_sem] theorem tfld_53 : tfld Try.prog 53 = (none : Option (List (Nat × TypeId))) := by kernel_rfl
@[go_sem] theorem tint_53 : tint Try.prog 53 = (none : Option IntKind) := by kernel_rfl
@[go_sem] theorem tstr_53 : tstr Try.prog 53 = false := by kernel_rfl
@[go_sem] theorem tagg_53 : tagg Try.prog 53 = (some false : Option Bool) := by kernel_rfl
@[go_sem] theorem tby_53 : tby Try.prog 53 = 8 := by kernel_rfl
@[go_sem] theorem tkind_53 : tkind Try.prog 53 = (none : Option Nat) := by kernel_rfl
@[go_sem] theorem teq_53 : teq Try.prog 53 = (none : Option (List Nat)) := by kernel_rfl
@[go_sem] theorem tzA_53 : tzA Try.prog 53 = (some (AV.v Value.nilFunc) : Option AV) := by kernel_rfl
@[go_sem] theorem tund_54 : tund Try.prog 54 = true := by kernel_rfl
@[go_sem] theorem tsz_54 : tsz Try.prog 54 = 1 := by kernel_rfl
@[go_sem] theorem tel_54 : tel Try.prog 54 = (none : Option TypeId) := by kernel_rfl
@[go_sem] theorem tarr_54 : tarr Try.prog 54 = (none : Option (Nat × TypeId)) := by kernel_rfl
@[go_sem] theorem tfld_54 : tfld Try.prog 54 = (none : Option (List (Nat × TypeId))) := by kernel_rfl
@[go_sem] theorem tint_54 : tint Try.prog 54 = (none : Option IntKind) := by kernel_rfl
@[go_sem] theorem tstr_54 : tstr Try.prog 54 = false := by kernel_rfl
@[go_sem] theorem tagg_54 : tagg Try.prog 54 = (some false : Option Bool) := by kernel_rfl
@[go_sem] theorem tby_54 : tby Try.prog 54 = 8 := by kernel_rfl
@[go_sem] theorem tkind_54 : tkind Try.prog 54 = (none : Option Nat) := by kernel_rfl
@[go_sem] theorem teq_54 : teq Try.prog 54 = (none : Option (List Nat)) := by kernel_rfl
@[go_sem] theorem tzA_54 : tzA Try.prog 54 = (some (AV.v Value.nilFunc) : Option AV) := by kernel_rfl
@[go_sem] theorem tund_55 : tund Try.prog 55 = true := by kernel_rfl
@[go_sem] theorem tsz_55 : tsz Try.prog 55 = 8 := by kernel_rfl
@[go_sem] theorem tel_55 : tel Try.prog 55 = (none : Option TypeId) := by kernel_rfl
@[go_sem] theorem tarr_55 : tarr Try.prog 55 = (some (8, 3) : Option (Nat × TypeId)) := by kernel_rfl
@[go_sem] theorem tfld_55 : tfld Try.prog 55 = (none : Option (List (Nat × TypeId))) := by kernel_rfl
@[go_sem] theorem tint_55 : tint Try.prog 55 = (none : Option IntKind) := by kernel_rfl
@[go_sem] theorem tstr_55 : tstr Try.prog 55 = false := by kernel_rfl
@[go_sem] theorem tagg_55 : tagg Try.prog 55 = (some true : Option Bool) := by kernel_rfl
@[go_sem] theorem tby_55 : tby Try.prog 55 = 64 := by kernel_rfl
@[go_sem] theorem tkind_55 : tkind Try.prog 55 = (none : Option Nat) := by kernel_rfl
@[go_sem] theorem teq_55 : teq Try.prog 55 = (none : Option (List Nat)) := by kernel_rfl
@[go_sem] theorem tzA_55 : tzA Try.prog 55 = (some (AV.agg [AV.v (Value.int IntKind.i64 (0)), AV.v (Value.int IntKind.i64 (0)), AV.v (Value.int IntKind.i64 (0)), AV.v (Value.int IntKind.i64 (0)), AV.v (Value.int IntKind.i64 (0)), AV.v (Value.int IntKind.i64 (0)), AV.v (Value.int IntKind.i64 (0)), AV.v (Value.int IntKind.i64 (0))]) : Option AV) := by kernel_rfl
@[go_sem] theorem tund_56 : tund Try.prog 56 = true := by kernel_rfl
@[go_sem] theorem tsz_56 : tsz Try.prog 56 = 1 := by kernel_rfl
@[go_sem] theorem tel_56 : tel Try.prog 56 = (none : Option TypeId) := by kernel_rfl
@[go_sem] theorem tarr_56 : tarr Try.prog 56 = (none : Option (Nat × TypeId)) := by kernel_rfl
@[go_sem] theorem tfld_56 : tfld Try.prog 56 = (none : Option (List (Nat × TypeId))) := by kernel_rfl
@[go_sem] theorem tint_56 : tint Try.prog 56 = (none : Option IntKind) := by kernel_rfl
@[go_sem] theorem tstr_56 : tstr Try.prog 56 = false := by kernel_rfl
@[go_sem] theorem tagg_56 : tagg Try.prog 56 = (some false : Option Bool) := by kernel_rfl
@[go_sem] theorem tby_56 : tby Try.prog 56 = 8 := by kernel_rfl
@[go_sem] theorem tkind_56 : tkind Try.prog 56 = (none : Option Nat) := by kernel_rfl
@[go_sem] theorem teq_56 : teq Try.prog 56 = (none : Option (List Nat)) := by kernel_rfl
@[go_sem] theorem tzA_56 : tzA Try.prog 56 = (some (AV.v Value.nilFunc) : Option AV) := by kernel_rfl
@[go_sem] theorem tund_57 : tund Try.prog 57 = true := by kernel_rfl
@[go_sem] theorem tsz_57 : tsz Try.prog 57 = 1 := by kernel_rfl
@[go_sem] theorem tel_57 : tel Try.prog 57 = (none : Option TypeId) := by kernel_rfl
@[go_sem] theorem tarr_57 : tarr Try.prog 57 = (none : Option (Nat × TypeId)) := by kernel_rfl
@[go_sem] theorem tfld_57 : tfld Try.prog 57 = (none : Option (List (Nat × TypeId))) := by kernel_rfl
@[go_sem] theorem tint_57 : tint Try.prog 57 = (none : Option IntKind) := by kernel_rfl
@[go_sem] theorem tstr_57 : tstr Try.prog 57 = false := by kernel_rfl
@[go_sem] theorem tagg_57 : tagg Try.prog 57 = (some false : Option Bool) := by kernel_rfl
@[go_sem] theorem tby_57 : tby Try.prog 57 = 8 := by kernel_rfl
@[go_sem] theorem tkind_57 : tkind Try.prog 57 = (none : Option Nat) := by kernel_rfl
@[go_sem] theorem teq_57 : teq Try.prog 57 = (none : Option (List Nat)) := by kernel_rfl
@[go_sem] theorem tzA_57 : tzA Try.prog 57 = (some (AV.v Value.nilFunc) : Option AV) := by kernel_rfl
@[go_sem] theorem tund_58 : tund Try.prog 58 = true := by kernel_rfl
@[go_sem] theorem tsz_58 : tsz Try.prog 58 = 1 := by kernel_rfl
@[go_sem] theorem tel_58 : tel Try.prog 58 = (none : Option TypeId) := by kernel_rfl
@[go_sem] theorem tarr_58 : tarr Try.prog 58 = (none : Option (Nat × TypeId)) := by kernel_rfl
@[go_sem] theorem tfld_58 : tfld Try.prog 58 = (none : Option (List (Nat × TypeId))) := by kernel_rfl
@[go_sem] theorem tint_58 : tint Try.prog 58 = (none : Option IntKind) := by kernel_rfl
@[go_sem] theorem tstr_58 : tstr Try.prog 58 = false := by kernel_rfl
@[go_sem] theorem tagg_58 : tagg Try.prog 58 = (some false : Option Bool) := by kernel_rfl
@[go_sem] theorem tby_58 : tby Try.prog 58 = 8 := by kernel_rfl
@[go_sem] theorem tkind_58 : tkind Try.prog 58 = (none : Option Nat) := by kernel_rfl
@[go_sem] theorem teq_58 : teq Try.prog 58 = (none : Option (List Nat)) := by kernel_rfl
@[go_sem] theorem tzA_58 : tzA Try.prog 58 = (some (AV.v Value.nilFunc) : Option AV) := by kernel_rfl
@[go_sem] theorem tund_59 : tund Try.prog 59 = true := by kernel_rfl
@[go_sem] theorem tsz_59 : tsz Try.prog 59 = 1 := by kernel_rfl
@[go_sem] theorem tel_59 : tel Try.prog 59 = (none : Option TypeId) := by kernel_rfl
@[go_sem] theorem tarr_59 : tarr Try.prog 59 = (none : Option (Nat × TypeId)) := by kernel_rfl
@[go_sem] theorem tfld_59 : tfld Try.prog 59 = (none : Option (List (Nat × TypeId))) := by kernel_rfl
@[go_sem] theorem tint_59 : tint Try.prog 59 = (none : Option IntKind) := by kernel_rfl
@[go_sem] theorem tstr_59 : tstr Try.prog 59 = false := by kernel_rfl
@[go_sem] theorem tagg_59 : tagg Try.prog 59 = (some false : Option Bool) := by kernel_rfl
@[go_sem] theorem tby_59 : tby Try.prog 59 = 8 := by kernel_rfl
@[go_sem] theorem tkind_59 : tkind Try.prog 59 = (none : Option Nat) := by kernel_rfl
@[go_sem] theorem teq_59 : teq Try.prog 59 = (none : Option (List Nat)) := by kernel_rfl
@[go_sem] theorem tzA_59 : tzA Try.prog 59 = (some (AV.v Value.nilFunc) : Option AV) := by kernel_rfl
@[go_sem] theorem tund_60 : tund Try.prog 60 = true := by kernel_rfl
@[go_sem] theorem tsz_60 : tsz Try.prog 60 = 1 := by kernel_rfl
@[go_sem] theorem tel_60 : tel Try.prog 60 = (none : Option TypeId) := by kernel_rfl
@[go_sem] theorem tarr_60 : tarr Try.prog 60 = (none : Option (Nat × TypeId)) := by kernel_rfl
@[go_sem] theorem tfld_60 : tfld Try.prog 60 = (none : Option (List (Nat × TypeId))) := by kernel_rfl
@[go_sem] theorem tint_60 : tint Try.prog 60 = (none : Option IntKind) := by kernel_rfl
@[go_sem] theorem tstr_60 : tstr Try.prog 60 = false := by kernel_rfl
@[go_sem] theorem tagg_60 : tagg Try.prog 60 = (some false : Option Bool) := by kernel_rfl
@[go_sem] theorem tby_60 : tby Try.prog 60 = 0 := by kernel_rfl
@[go_sem] theorem tkind_60 : tkind Try.prog 60 = (none : Option Nat) := by kernel_rfl
@[go_sem] theorem teq_60 : teq Try.prog 60 = (none : Option (List Nat)) := by kernel_rfl
@[go_sem] theorem tzA_60 : tzA Try.prog 60 = (some (AV.tup [AV.v (Value.int IntKind.i64 (0)), AV.v (Value.int IntKind.i64 (0)), AV.v (Value.int IntKind.i64 (0))]) : Option AV) := by kernel_rfl
@[go_sem] theorem tund_61 : tund Try.prog 61 = true := by kernel_rfl
@[go_sem] theorem tsz_61 : tsz Try.prog 61 = 1 := by kernel_rfl
@[go_sem] theorem tel_61 : tel Try.prog 61 = (none : Option TypeId) := by kernel_rfl
@[go_sem] theorem tarr_61 : tarr Try.prog 61 = (none : Option (Nat × TypeId)) := by kernel_rfl
@[go_sem] theorem tfld_61 : tfld Try.prog 61 = (none : Option (List (Nat × TypeId))) := by kernel_rfl
@[go_sem] theorem tint_61 : tint Try.prog 61 = (none : Option IntKind) := by kernel_rfl
@[go_sem] theorem tstr_61 : tstr Try.prog 61 = false := by kernel_rfl
@[go_sem] theorem tagg_61 : tagg Try.prog 61 = (some false : Option Bool) := by kernel_rfl
@[go_sem] theorem tby_61 : tby Try.prog 61 = 8 := by kernel_rfl
@[go_sem] theorem tkind_61 : tkind Try.prog 61 = (none : Option Nat) := by kernel_rfl
@[go_sem] theorem teq_61 : teq Try.prog 61 = (none : Option (List Nat)) := by kernel_rfl
@[go_sem] theorem tzA_61 : tzA Try.prog 61 = (some (AV.v Value.nilFunc) : Option AV) := by kernel_rfl
@[go_sem] theorem tund_62 : tund Try.prog 62 = true := by kernel_rfl
@[go_sem] theorem tsz_62 : tsz Try.prog 62 = 1 := by kernel_rfl
@[go_sem] theorem tel_62 : tel Try.prog 62 = (none : Option TypeId) := by kernel_rfl
@[go_sem] theorem tarr_62 : tarr Try.prog 62 = (none : Option (Nat × TypeId)) := by kernel_rfl
@[go_sem] theorem tfld_62 : tfld Try.prog 62 = (none : Option (List (Nat × TypeId))) := by kernel_rfl
@[go_sem] theorem tint_62 : tint Try.prog 62 = (none : Option IntKind) := by kernel_rfl
@[go_sem] theorem tstr_62 : tstr Try.prog 62 = false := by kernel_rfl
@[go_sem] theorem tagg_62 : tagg Try.prog 62 = (some false : Option Bool) := by kernel_rfl
@[go_sem] theorem tby_62 : tby Try.prog 62 = 8 := by kernel_rfl
@[go_sem] theorem tkind_62 : tkind Try.prog 62 = (none : Option Nat) := by kernel_rfl
@[go_sem] theorem teq_62 : teq Try.prog 62 = (none : Option (List Nat)) := by kernel_rfl
@[go_sem] theorem tzA_62 : tzA Try.prog 62 = (some (AV.v Value.nilFunc) : Option AV) := by kernel_rfl
@[go_sem] theorem tund_63 : tund Try.prog 63 = true := by kernel_rfl
@[go_sem] theorem tsz_63 : tsz Try.prog 63 = 1 := by kernel_rfl
@[go_sem] theorem tel_63 : tel Try.prog 63 = (none : Option TypeId) := by kernel_rfl
@[go_sem] theorem tarr_63 : tarr Try.prog 63 = (none : Option (Nat × TypeId)) := by kernel_rfl
@[go_sem] theorem tfld_63 : tfld Try.prog 63 = (none : Option (List (Nat × TypeId))) := by kernel_rfl
@[go_sem] theorem tint_63 : tint Try.prog 63 = (none : Option IntKind) := by kernel_rfl
@[go_sem] theorem tstr_63 : tstr Try.prog 63 = false := by kernel_rfl
@[go_sem] theorem tagg_63 : tagg Try.prog 63 = (some false : Option Bool) := by kernel_rfl
@[go_sem] theorem tby_63 : tby Try.prog 63 = 8 := by kernel_rfl
@[go_sem] theorem tkind_63 : tkind Try.prog 63 = (none : Option Nat) := by kernel_rfl
@[go_sem] theorem teq_63 : teq Try.prog 63 = (none : Option (List Nat)) := by kernel_rfl
@[go_sem] theorem tzA_63 : tzA Try.prog 63 = (some (AV.v Value.nilFunc) : Option AV) := by kernel_rfl
@[go_sem] theorem tund_64 : tund Try.prog 64 = true := by kernel_rfl
@[go_sem] theorem tsz_64 : tsz Try.prog 64 = 1 := by kernel_rfl
@[go_sem] theorem tel_64 : tel Try.prog 64 = (none : Option TypeId) := by kernel_rfl
@[go_sem] theorem tarr_64 : tarr Try.prog 64 = (none : Option (Nat × TypeId)) := by kernel_rfl
@[go_sem] theorem tfld_64 : tfld Try.prog 64 = (none : Option (List (Nat × TypeId))) := by kernel_rfl
@[go_sem] theorem tint_64 : tint Try.prog 64 = (none : Option IntKind) := by kernel_rfl
@[go_sem] theorem tstr_64 : tstr Try.prog 64 = false := by kernel_rfl
@[go_sem] theorem tagg_64 : tagg Try.prog 64 = (some false : Option Bool) := by kernel_rfl
@[go_sem] theorem tby_64 : tby Try.prog 64 = 8 := by kernel_rfl
@[go_sem] theorem tkind_64 : tkind Try.prog 64 = (none : Option Nat) := by kernel_rfl
@[go_sem] theorem teq_64 : teq Try.prog 64 = (none : Option (List Nat)) := by kernel_rfl
@[go_sem] theorem tzA_64 : tzA Try.prog 64 = (some (AV.v Value.nilFunc) : Option AV) := by kernel_rfl
@[go_sem] theorem tund_65 : tund Try.prog 65 = true := by kernel_rfl
@[go_sem] theorem tsz_65 : tsz Try.prog 65 = 1 := by kernel_rfl
@[go_sem] theorem tel_65 : tel Try.prog 65 = (none : Option TypeId) := by kernel_rfl
@[go_sem] theorem tarr_65 : tarr Try.prog 65 = (none : Option (Nat × TypeId)) := by kernel_rfl
@[go_sem] theorem tfld_65 : tfld Try.prog 65 = (none : Option (List (Nat × TypeId))) := by kernel_rfl
@[go_sem] theorem tint_65 : tint Try.prog 65 = (none : Option IntKind) := by kernel_rfl
@[go_sem] theorem tstr_65 : tstr Try.prog 65 = false := by kernel_rfl
@[go_sem] theorem tagg_65 : tagg Try.prog 65 = (some false : Option Bool) := by kernel_rfl
@[go_sem] theorem tby_65 : tby Try.prog 65 = 8 := by kernel_rfl
@[go_sem] theorem tkind_65 : tkind Try.prog 65 = (none : Option Nat) := by kernel_rfl
@[go_sem] theorem teq_65 : teq Try.prog 65 = (none : Option (List Nat)) := by kernel_rfl
@[go_sem] theorem tzA_65 : tzA Try.prog 65 = (some (AV.v Value.nilFunc) : Option AV) := by kernel_rfl
@[go_sem] theorem tund_66 : tund Try.prog 66 = true := by kernel_rfl
@[go_sem] theorem tsz_66 : tsz Try.prog 66 = 1 := by kernel_rfl
@[go_sem] theorem tel_66 : tel Try.prog 66 = (none : Option TypeId) := by kernel_rfl
@[go_sem] theorem tarr_66 : tarr Try.prog 66 = (none : Option (Nat × TypeId)) := by kernel_rfl
@[go_sem] theorem tfld_66 : tfld Try.prog 66 = (none : Option (List (Nat × TypeId))) := by kernel_rfl
@[go_sem] theorem tint_66 : tint Try.prog 66 = (none : Option IntKind) := by kernel_rfl
@[go_sem] theorem tstr_66 : tstr Try.prog 66 = false := by kernel_rfl
@[go_sem] theorem tagg_66 : tagg Try.prog 66 = (some false : Option Bool) := by kernel_rfl
@[go_sem] theorem tby_66 : tby Try.prog 66 = 8 := by kernel_rfl
@[go_sem] theorem tkind_66 : tkind Try.prog 66 = (none : Option Nat) := by kernel_rfl
@[go_sem] theorem teq_66 : teq Try.prog 66 = (none : Option (List Nat)) := by kernel_rfl
@[go_sem] theorem tzA_66 : tzA Try.prog 66 = (some (AV.v Value.nilFunc) : Option AV) := by kernel_rfl
@[go_sem] theorem tund_67 : tund Try.prog 67 = true := by kernel_rfl
@[go_sem] theorem tsz_67 : tsz Try.prog 67 = 1 := by kernel_rfl
@[go_sem] theorem tel_67 : tel Try.prog 67 = (none : Option TypeId) := by kernel_rfl
@[go_sem] theorem tarr_67 : tarr Try.prog 67 = (none : Option (Nat × TypeId)) := by kernel_rfl
@[go_sem] theorem tfld_67 : tfld Try.prog 67 = (none : Option (List (Nat × TypeId))) := by kernel_rfl
@[go_sem] theorem tint_67 : tint Try.prog 67 = (none : Option IntKind) := by kernel_rfl
@[go_sem] theorem tstr_67 : tstr Try.prog 67 = false := by kernel_rfl
@[go_sem] theorem tagg_67 : tagg Try.prog 67 = (some false : Option Bool) := by kernel_rfl
@[go_sem] theorem tby_67 : tby Try.prog 67 = 8 := by kernel_rfl
@[go_sem] theorem tkind_67 : tkind Try.prog 67 = (none : Option Nat) := by kernel_rfl
@[go_sem] theorem teq_67 : teq Try.prog 67 = (none : Option (List Nat)) := by kernel_rfl
@[go_sem] theorem tzA_67 : tzA Try.prog 67 = (some (AV.v Value.nilFunc) : Option AV) := by kernel_rfl
@[go_sem] theorem tund_68 : tund Try.prog 68 = true := by kernel_rfl
@[go_sem] theorem tsz_68 : tsz Try.prog 68 = 1 := by kernel_rfl
@[go_sem] theorem tel_68 : tel Try.prog 68 = (none : Option TypeId) := by kernel_rfl
@[go_sem] theorem tarr_68 : tarr Try.prog 68 = (none : Option (Nat × TypeId)) := by kernel_rfl
@[go_sem] theorem tfld_68 : tfld Try.prog 68 = (none : Option (List (Nat × TypeId))) := by kernel_rfl
@[go_sem] theorem tint_68 : tint Try.prog 68 = (none : Option IntKind) := by kernel_rfl
@[go_sem] theorem tstr_68 : tstr Try.prog 68 = false := by kernel_rfl
@[go_sem] theorem tagg_68 : tagg Try.prog 68 = (some false : Option Bool) := by kernel_rfl
@[go_sem] theorem tby_68 : tby Try.prog 68 = 8 := by kernel_rfl
@[go_sem] theorem tkind_68 : tkind Try.prog 68 = (none : Option Nat) := by kernel_rfl
@[go_sem] theorem teq_68 : teq Try.prog 68 = (none : Option (List Nat)) := by kernel_rfl
@[go_sem] theorem tzA_68 : tzA Try.prog 68 = (some (AV.v Value.nilFunc) : Option AV) := by kernel_rfl
@[go_sem] theorem tund_69 : tund Try.prog 69 = true := by kernel_rfl
@[go_sem] theorem tsz_69 : tsz Try.prog 69 = 1 := by kernel_rfl
@[go_sem] theorem tel_69 : tel Try.prog 69 = (none : Option TypeId) := by kernel_rfl
@[go_sem] theorem tarr_69 : tarr Try.prog 69 = (none : Option (Nat × TypeId)) := by kernel_rfl
@[go_sem] theorem tfld_69 : tfld Try.prog 69 = (none : Option (List (Nat × TypeId))) := by kernel_rfl
@[go_sem] theorem tint_69 : tint Try.prog 69 = (none : Option IntKind) := by kernel_rfl
@[go_sem] theorem tstr_69 : tstr Try.prog 69 = false := by kernel_rfl
@[go_sem] theorem tagg_69 : tagg Try.prog 69 = (some false : Option Bool) := by kernel_rfl
@[go_sem] theorem tby_69 : tby Try.prog 69 = 8 := by kernel_rfl
@[go_sem] theorem tkind_69 : tkind Try.prog 69 = (none : Option Nat) := by kernel_rfl
@[go_sem] theorem teq_69 : teq Try.prog 69 = (none : Option (List Nat)) := by kernel_rfl
@[go_sem] theorem tzA_69 : tzA Try.prog 69 = (some (AV.v Value.nilFunc) : Option AV) := by kernel_rfl
@[go_sem] theorem tund_70 : tund Try.prog 70 = true := by kernel_rfl
@[go_sem] theorem tsz_70 : tsz Try.prog 70 = 1 := by kernel_rfl
@[go_sem] theorem tel_70 : tel Try.prog 70 = (none : Option TypeId) := by kernel_rfl
@[go_sem] theorem tarr_70 : tarr Try.prog 70 = (none : Option (Nat × TypeId)) := by kernel_rfl
@[go_sem] theorem tfld_70 : tfld Try.prog 70 = (none : Option (List (Nat × TypeId))) := by kernel_rfl
@[go_sem] theorem tint_70 : tint Try.prog 70 = (none : Option IntKind) := by kernel_rfl
@[go_sem] theorem tstr_70 : tstr Try.prog 70 = false := by kernel_rfl
@[go_sem] theorem tagg_70 : tagg Try.prog 70 = (some false : Option Bool) := by kernel_rfl
@[go_sem] theorem tby_70 : tby Try.prog 70 = 8 := by kernel_rfl
@[go_sem] theorem tkind_70 : tkind Try.prog 70 = (none : Option Nat) := by kernel_rfl
@[go_sem] theorem teq_70 : teq Try.prog 70 = (none : Option (List Nat)) := by kernel_rfl
@[go_sem] theorem tzA_70 : tzA Try.prog 70 = (some (AV.v Value.nilFunc) : Option AV) := by kernel_rfl
@[go_sem] theorem tund_71 : tund Try.prog 71 = true := by kernel_rfl
@[go_sem] theorem tsz_71 : tsz Try.prog 71 = 4 := by kernel_rfl
@[go_sem] theorem tel_71 : tel Try.prog 71 = (none : Option TypeId) := by kernel_rfl
@[go_sem] theorem tarr_71 : tarr Try.prog 71 = (none : Option (Nat × TypeId)) := by kernel_rfl
@[go_sem] theorem tfld_71 : tfld Try.prog 71 = (some [(0, 17), (1, 17), (2, 17), (3, 9)] : Option (List (Nat × TypeId))) := by kernel_rfl
@[go_sem] theorem tint_71 : tint Try.prog 71 = (none : Option IntKind) := by kernel_rfl
@[go_sem] theorem tstr_71 : tstr Try.prog 71 = false := by kernel_rfl
@[go_sem] theorem tagg_71 : tagg Try.prog 71 = (some true : Option Bool) := by kernel_rfl
@[go_sem] theorem tby_71 : tby Try.prog 71 = 40 := by kernel_rfl
@[go_sem] theorem tkind_71 : tkind Try.prog 71 = (none : Option Nat) := by kernel_rfl
@[go_sem] theorem teq_71 : teq Try.prog 71 = (none : Option (List Nat)) := by kernel_rfl
@[go_sem] theorem tzA_71 : tzA Try.prog 71 = (some (AV.agg [AV.v (Value.pointer none), AV.v (Value.pointer none), AV.v (Value.pointer none), AV.v (Value.string ByteArray.empty)]) : Option AV) := by kernel_rfl
@[go_sem] theorem tund_72 : tund Try.prog 72 = true := by kernel_rfl
@[go_sem] theorem tsz_72 : tsz Try.prog 72 = 4 := by kernel_rfl
@[go_sem] theorem tel_72 : tel Try.prog 72 = (none : Option TypeId) := by kernel_rfl
@[go_sem] theorem tarr_72 : tarr Try.prog 72 = (none : Option (Nat × TypeId)) := by kernel_rfl
@[go_sem] theorem tfld_72 : tfld Try.prog 72 = (some [(0, 17), (1, 17), (2, 17), (3, 9)] : Option (List (Nat × TypeId))) := by kernel_rfl
@[go_sem] theorem tint_72 : tint Try.prog 72 = (none : Option IntKind) := by kernel_rfl
@[go_sem] theorem tstr_72 : tstr Try.prog 72 = false := by kernel_rfl
@[go_sem] theorem tagg_72 : tagg Try.prog 72 = (some true : Option Bool) := by kernel_rfl
@[go_sem] theorem tby_72 : tby Try.prog 72 = 40 := by kernel_rfl
@[go_sem] theorem tkind_72 : tkind Try.prog 72 = (none : Option Nat) := by kernel_rfl
@[go_sem] theorem teq_72 : teq Try.prog 72 = (none : Option (List Nat)) := by kernel_rfl
@[go_sem] theorem tzA_72 : tzA Try.prog 72 = (some (AV.agg [AV.v (Value.pointer none), AV.v (Value.pointer none), AV.v (Value.pointer none), AV.v (Value.string ByteArray.empty)]) : Option AV) := by kernel_rfl
@[go_sem] theorem tund_73 : tund Try.prog 73 = true := by kernel_rfl
@[go_sem] theorem tsz_73 : tsz Try.prog 73 = 0 := by kernel_rfl
@[go_sem] theorem tel_73 : tel Try.prog 73 = (none : Option TypeId) := by kernel_rfl
@[go_sem] theorem tarr_73 : tarr Try.prog 73 = (some (0, 16) : Option (Nat × TypeId)) := by kernel_rfl
@[go_sem] theorem tfld_73 : tfld Try.prog 73 = (none : Option (List (Nat × TypeId))) := by kernel_rfl
@[go_sem] theorem tint_73 : tint Try.prog 73 = (none : Option IntKind) := by kernel_rfl
@[go_sem] theorem tstr_73 : tstr Try.prog 73 = false := by kernel_rfl
@[go_sem] theorem tagg_73 : tagg Try.prog 73 = (some true : Option Bool) := by kernel_rfl
@[go_sem] theorem tby_73 : tby Try.prog 73 = 0 := by kernel_rfl
@[go_sem] theorem tkind_73 : tkind Try.prog 73 = (none : Option Nat) := by kernel_rfl
@[go_sem] theorem teq_73 : teq Try.prog 73 = (none : Option (List Nat)) := by kernel_rfl
@[go_sem] theorem tzA_73 : tzA Try.prog 73 = (some (AV.agg []) : Option AV) := by kernel_rfl
@[go_sem] theorem tund_74 : tund Try.prog 74 = true := by kernel_rfl
@[go_sem] theorem tsz_74 : tsz Try.prog 74 = 0 := by kernel_rfl
@[go_sem] theorem tel_74 : tel Try.prog 74 = (none : Option TypeId) := by kernel_rfl
@[go_sem] theorem tarr_74 : tarr Try.prog 74 = (none : Option (Nat × TypeId)) := by kernel_rfl
@[go_sem] theorem tfld_74 : tfld Try.prog 74 = (some [(0, 73)] : Option (List (Nat × TypeId))) := by kernel_rfl
@[go_sem] theorem tint_74 : tint Try.prog 74 = (none : Option IntKind) := by kernel_rfl
@[go_sem] theorem tstr_74 : tstr Try.prog 74 = false := by kernel_rfl
@[go_sem] theorem tagg_74 : tagg Try.prog 74 = (some true : Option Bool) := by kernel_rfl
@[go_sem] theorem tby_74 : tby Try.prog 74 = 0 := by kernel_rfl
@[go_sem] theorem tkind_74 : tkind Try.prog 74 = (none : Option Nat) := by kernel_rfl
@[go_sem] theorem teq_74 : teq Try.prog 74 = (none : Option (List Nat)) := by kernel_rfl
@[go_sem] theorem tzA_74 : tzA Try.prog 74 = (some (AV.agg []) : Option AV) := by kernel_rfl
@[go_sem] theorem tund_75 : tund Try.prog 75 = true := by kernel_rfl
@[go_sem] theorem tsz_75 : tsz Try.prog 75 = 0 := by kernel_rfl
@[go_sem] theorem tel_75 : tel Try.prog 75 = (none : Option TypeId) := by kernel_rfl
@[go_sem] theorem tarr_75 : tarr Try.prog 75 = (none : Option (Nat × TypeId)) := by kernel_rfl
@[go_sem] theorem tfld_75 : tfld Try.prog 75 = (some [(0, 73)] : Option (List (Nat × TypeId))) := by kernel_rfl
@[go_sem] theorem tint_75 : tint Try.prog 75 = (none : Option IntKind) := by kernel_rfl
@[go_sem] theorem tstr_75 : tstr Try.prog 75 = false := by kernel_rfl
@[go_sem] theorem tagg_75 : tagg Try.prog 75 = (some true : Option Bool) := by kernel_rfl
@[go_sem] theorem tby_75 : tby Try.prog 75 = 0 := by kernel_rfl
@[go_sem] theorem tkind_75 : tkind Try.prog 75 = (none : Option Nat) := by kernel_rfl
@[go_sem] theorem teq_75 : teq Try.prog 75 = (none : Option (List Nat)) := by kernel_rfl
@[go_sem] theorem tzA_75 : tzA Try.prog 75 = (some (AV.agg []) : Option AV) := by kernel_rfl
@[go_sem] theorem tund_76 : tund Try.prog 76 = true := by kernel_rfl
@[go_sem] theorem tsz_76 : tsz Try.prog 76 = 1 := by kernel_rfl
@[go_sem] theorem tel_76 : tel Try.prog 76 = (none : Option TypeId) := by kernel_rfl
@[go_sem] theorem tarr_76 : tarr Try.prog 76 = (none : Option (Nat × TypeId)) := by kernel_rfl
@[go_sem] theorem tfld_76 : tfld Try.prog 76 = (none : Option (List (Nat × TypeId))) := by kernel_rfl
@[go_sem] theorem tint_76 : tint Try.prog 76 = (none : Option IntKind) := by kernel_rfl
@[go_sem] theorem tstr_76 : tstr Try.prog 76 = false := by kernel_rfl
@[go_sem] theorem tagg_76 : tagg Try.prog 76 = (some false : Option Bool) := by kernel_rfl
@[go_sem] theorem tby_76 : tby Try.prog 76 = 8 := by kernel_rfl
@[go_sem] theorem tkind_76 : tkind Try.prog 76 = (none : Option Nat) := by kernel_rfl
@[go_sem] theorem teq_76 : teq Try.prog 76 = (none : Option (List Nat)) := by kernel_rfl
@[go_sem] theorem tzA_76 : tzA Try.prog 76 = (some (AV.v Value.nilFunc) : Option AV) := by kernel_rfl
@[go_sem] theorem tund_77 : tund Try.prog 77 = true := by kernel_rfl
@[go_sem] theorem tsz_77 : tsz Try.prog 77 = 1 := by kernel_rfl
@[go_sem] theorem tel_77 : tel Try.prog 77 = (none : Option TypeId) := by kernel_rfl
@[go_sem] theorem tarr_77 : tarr Try.prog 77 = (none : Option (Nat × TypeId)) := by kernel_rfl
@[go_sem] theorem tfld_77 : tfld Try.prog 77 = (none : Option (List (Nat × TypeId))) := by kernel_rfl
@[go_sem] theorem tint_77 : tint Try.prog 77 = (some IntKind.u32 : Option IntKind) := by kernel_rfl
@[go_sem] theorem tstr_77 : tstr Try.prog 77 = false := by kernel_rfl
@[go_sem] theorem tagg_77 : tagg Try.prog 77 = (some false : Option Bool) := by kernel_rfl
@[go_sem] theorem tby_77 : tby Try.prog 77 = 4 := by kernel_rfl
@[go_sem] theorem tkind_77 : tkind Try.prog 77 = (some 0 : Option Nat) := by kernel_rfl
@[go_sem] theorem teq_77 : teq Try.prog 77 = (none : Option (List Nat)) := by kernel_rfl
@[go_sem] theorem tzA_77 : tzA Try.prog 77 = (some (AV.v (Value.int IntKind.u32 (0))) : Option AV) := by kernel_rfl
@[go_sem] theorem tund_78 : tund Try.prog 78 = true := by kernel_rfl
@[go_sem] theorem tsz_78 : tsz Try.prog 78 = 1 := by kernel_rfl
@[go_sem] theorem tel_78 : tel Try.prog 78 = (none : Option TypeId) := by kernel_rfl
@[go_sem] theorem tarr_78 : tarr Try.prog 78 = (none : Option (Nat × TypeId)) := by kernel_rfl
@[go_sem] theorem tfld_78 : tfld Try.prog 78 = (none : Option (List (Nat × TypeId))) := by kernel_rfl
@[go_sem] theorem tint_78 : tint Try.prog 78 = (some IntKind.u8 : Option IntKind) := by kernel_rfl
@[go_sem] theorem tstr_78 : tstr Try.prog 78 = false := by kernel_rfl
@[go_sem] theorem tagg_78 : tagg Try.prog 78 = (some false : Option Bool) := by kernel_rfl
@[go_sem] theorem tby_78 : tby Try.prog 78 = 1 := by kernel_rfl
@[go_sem] theorem tkind_78 : tkind Try.prog 78 = (some 0 : Option Nat) := by kernel_rfl
@[go_sem] theorem teq_78 : teq Try.prog 78 = (none : Option (List Nat)) := by kernel_rfl
@[go_sem] theorem tzA_78 : tzA Try.prog 78 = (some (AV.v (Value.int IntKind.u8 (0))) : Option AV) := by kernel_rfl
@[go_sem] theorem tund_79 : tund Try.prog 79 = true := by kernel_rfl
@[go_sem] theorem tsz_79 : tsz Try.prog 79 = 1 := by kernel_rfl
@[go_sem] theorem tel_79 : tel Try.prog 79 = (none : Option TypeId) := by kernel_rfl
@[go_sem] theorem tarr_79 : tarr Try.prog 79 = (none : Option (Nat × TypeId)) := by kernel_rfl
@[go_sem] theorem tfld_79 : tfld Try.prog 79 = (none : Option (List (Nat × TypeId))) := by kernel_rfl
@[go_sem] theorem tint_79 : tint Try.prog 79 = (some IntKind.u8 : Option IntKind) := by kernel_rfl
@[go_sem] theorem tstr_79 : tstr Try.prog 79 = false := by kernel_rfl
@[go_sem] theorem tagg_79 : tagg Try.prog 79 = (some false : Option Bool) := by kernel_rfl
@[go_sem] theorem tby_79 : tby Try.prog 79 = 1 := by kernel_rfl
@[go_sem] theorem tkind_79 : tkind Try.prog 79 = (some 0 : Option Nat) := by kernel_rfl
@[go_sem] theorem teq_79 : teq Try.prog 79 = (none : Option (List Nat)) := by kernel_rfl
@[go_sem] theorem tzA_79 : tzA Try.prog 79 = (some (AV.v (Value.int IntKind.u8 (0))) : Option AV) := by kernel_rfl
@[go_sem] theorem tund_80 : tund Try.prog 80 = true := by kernel_rfl
@[go_sem] theorem tsz_80 : tsz Try.prog 80 = 1 := by kernel_rfl
@[go_sem] theorem tel_80 : tel Try.prog 80 = (none : Option TypeId) := by kernel_rfl
@[go_sem] theorem tarr_80 : tarr Try.prog 80 = (none : Option (Nat × TypeId)) := by kernel_rfl
@[go_sem] theorem tfld_80 : tfld Try.prog 80 = (none : Option (List (Nat × TypeId))) := by kernel_rfl
@[go_sem] theorem tint_80 : tint Try.prog 80 = (none : Option IntKind) := by kernel_rfl
@[go_sem] theorem tstr_80 : tstr Try.prog 80 = false := by kernel_rfl
@[go_sem] theorem tagg_80 : tagg Try.prog 80 = (some false : Option Bool) := by kernel_rfl
@[go_sem] theorem tby_80 : tby Try.prog 80 = 8 := by kernel_rfl
@[go_sem] theorem tkind_80 : tkind Try.prog 80 = (none : Option Nat) := by kernel_rfl
@[go_sem] theorem teq_80 : teq Try.prog 80 = (none : Option (List Nat)) := by kernel_rfl
@[go_sem] theorem tzA_80 : tzA Try.prog 80 = (some (AV.v Value.nilFunc) : Option AV) := by kernel_rfl
@[go_sem] theorem tund_81 : tund Try.prog 81 = true := by kernel_rfl
@[go_sem] theorem tsz_81 : tsz Try.prog 81 = 1 := by kernel_rfl
@[go_sem] theorem tel_81 : tel Try.prog 81 = (none : Option TypeId) := by kernel_rfl
@[go_sem] theorem tarr_81 : tarr Try.prog 81 = (none : Option (Nat × TypeId)) := by kernel_rfl
@[go_sem] theorem tfld_81 : tfld Try.prog 81 = (none : Option (List (Nat × TypeId))) := by kernel_rfl
@[go_sem] theorem tint_81 : tint Try.prog 81 = (none : Option IntKind) := by kernel_rfl
@[go_sem] theorem tstr_81 : tstr Try.prog 81 = false := by kernel_rfl
@[go_sem] theorem tagg_81 : tagg Try.prog 81 = (some false : Option Bool) := by kernel_rfl
@[go_sem] theorem tby_81 : tby Try.prog 81 = 8 := by kernel_rfl
@[go_sem] theorem tkind_81 : tkind Try.prog 81 = (none : Option Nat) := by kernel_rfl
@[go_sem] theorem teq_81 : teq Try.prog 81 = (none : Option (List Nat)) := by kernel_rfl
@[go_sem] theorem tzA_81 : tzA Try.prog 81 = (some (AV.v (Value.pointer none)) : Option AV) := by kernel_rfl
@[go_sem] theorem tund_82 : tund Try.prog 82 = true := by kernel_rfl
@[go_sem] theorem tsz_82 : tsz Try.prog 82 = 1 := by kernel_rfl
@[go_sem] theorem tel_82 : tel Try.prog 82 = (none : Option TypeId) := by kernel_rfl
@[go_sem] theorem tarr_82 : tarr Try.prog 82 = (none : Option (Nat × TypeId)) := by kernel_rfl
@[go_sem] theorem tfld_82 : tfld Try.prog 82 = (none : Option (List (Nat × TypeId))) := by kernel_rfl
@[go_sem] theorem tint_82 : tint Try.prog 82 = (some IntKind.i32 : Option IntKind) := by kernel_rfl
@[go_sem] theorem tstr_82 : tstr Try.prog 82 = false := by kernel_rfl
@[go_sem] theorem tagg_82 : tagg Try.prog 82 = (some false : Option Bool) := by kernel_rfl
@[go_sem] theorem tby_82 : tby Try.prog 82 = 4 := by kernel_rfl
@[go_sem] theorem tkind_82 : tkind Try.prog 82 = (some 0 : Option Nat) := by kernel_rfl
@[go_sem] theorem teq_82 : teq Try.prog 82 = (none : Option (List Nat)) := by kernel_rfl
@[go_sem] theorem tzA_82 : tzA Try.prog 82 = (some (AV.v (Value.int IntKind.i32 (0))) : Option AV) := by kernel_rfl
@[go_sem] theorem tund_83 : tund Try.prog 83 = true := by kernel_rfl
@[go_sem] theorem tsz_83 : tsz Try.prog 83 = 1 := by kernel_rfl
@[go_sem] theorem tel_83 : tel Try.prog 83 = (none : Option TypeId) := by kernel_rfl
@[go_sem] theorem tarr_83 : tarr Try.prog 83 = (none : Option (Nat × TypeId)) := by kernel_rfl
@[go_sem] theorem tfld_83 : tfld Try.prog 83 = (none : Option (List (Nat × TypeId))) := by kernel_rfl
@[go_sem] theorem tint_83 : tint Try.prog 83 = (some IntKind.i32 : Option IntKind) := by kernel_rfl
@[go_sem] theorem tstr_83 : tstr Try.prog 83 = false := by kernel_rfl
@[go_sem] theorem tagg_83 : tagg Try.prog 83 = (some false : Option Bool) := by kernel_rfl
@[go_sem] theorem tby_83 : tby Try.prog 83 = 4 := by kernel_rfl
@[go_sem] theorem tkind_83 : tkind Try.prog 83 = (some 0 : Option Nat) := by kernel_rfl
@[go_sem] theorem teq_83 : teq Try.prog 83 = (none : Option (List Nat)) := by kernel_rfl
@[go_sem] theorem tzA_83 : tzA Try.prog 83 = (some (AV.v (Value.int IntKind.i32 (0))) : Option AV) := by kernel_rfl
@[go_sem] theorem tund_84 : tund Try.prog 84 = true := by kernel_rfl
@[go_sem] theorem tsz_84 : tsz Try.prog 84 = 11 := by kernel_rfl
@[go_sem] theorem tel_84 : tel Try.prog 84 = (none : Option TypeId) := by kernel_rfl
@[go_sem] theorem tarr_84 : tarr Try.prog 84 = (none : Option (Nat × TypeId)) := by kernel_rfl
@[go_sem] theorem tfld_84 : tfld Try.prog 84 = (some [(0, 12), (1, 12), (2, 77), (3, 78), (4, 5), (5, 5), (6, 79), (7, 80), (8, 81), (9, 82), (10, 83)] : Option (List (Nat × TypeId))) := by kernel_rfl
@[go_sem] theorem tint_84 : tint Try.prog 84 = (none : Option IntKind) := by kernel_rfl
@[go_sem] theorem tstr_84 : tstr Try.prog 84 = false := by kernel_rfl
@[go_sem] theorem tagg_84 : tagg Try.prog 84 = (some true : Option Bool) := by kernel_rfl
@[go_sem] theorem tby_84 : tby Try.prog 84 = 48 := by kernel_rfl
@[go_sem] theorem tkind_84 : tkind Try.prog 84 = (none : Option Nat) := by kernel_rfl
@[go_sem] theorem teq_84 : teq Try.prog 84 = (none : Option (List Nat)) := by kernel_rfl
@[go_sem] theorem tzA_84 : tzA Try.prog 84 = (some (AV.agg [AV.v (Value.int IntKind.u64 (0)), AV.v (Value.int IntKind.u64 (0)), AV.v (Value.int IntKind.u32 (0)), AV.v (Value.int IntKind.u8 (0)), AV.v (Value.int IntKind.u8 (0)), AV.v (Value.int IntKind.u8 (0)), AV.v (Value.int IntKind.u8 (0)), AV.v Value.nilFunc, AV.v (Value.pointer none), AV.v (Value.int IntKind.i32 (0)), AV.v (Value.int IntKind.i32 (0))]) : Option AV) := by kernel_rfl
@[go_sem] theorem tund_85 : tund Try.prog 85 = true := by kernel_rfl
@[go_sem] theorem tsz_85 : tsz Try.prog 85 = 11 := by kernel_rfl
@[go_sem] theorem tel_85 : tel Try.prog 85 = (none : Option TypeId) := by kernel_rfl
@[go_sem] theorem tarr_85 : tarr Try.prog 85 = (none : Option (Nat × TypeId)) := by kernel_rfl
@[go_sem] theorem tfld_85 : tfld Try.prog 85 = (some [(0, 12), (1, 12), (2, 77), (3, 78), (4, 5), (5, 5), (6, 79), (7, 80), (8, 81), (9, 82), (10, 83)] : Option (List (Nat × TypeId))) := by kernel_rfl
@[go_sem] theorem tint_85 : tint Try.prog 85 = (none : Option IntKind) := by kernel_rfl
@[go_sem] theorem tstr_85 : tstr Try.prog 85 = false := by kernel_rfl
@[go_sem] theorem tagg_85 : tagg Try.prog 85 = (some true : Option Bool) := by kernel_rfl
@[go_sem] theorem tby_85 : tby Try.prog 85 = 48 := by kernel_rfl
@[go_sem] theorem tkind_85 : tkind Try.prog 85 = (none : Option Nat) := by kernel_rfl
@[go_sem] theorem teq_85 : teq Try.prog 85 = (none : Option (List Nat)) := by kernel_rfl
@[go_sem] theorem tzA_85 : tzA Try.prog 85 = (some (AV.agg [AV.v (Value.int IntKind.u64 (0)), AV.v (Value.int IntKind.u64 (0)), AV.v (Value.int IntKind.u32 (0)), AV.v (Value.int IntKind.u8 (0)), AV.v (Value.int IntKind.u8 (0)), AV.v (Value.int IntKind.u8 (0)), AV.v (Value.int IntKind.u8 (0)), AV.v Value.nilFunc, AV.v (Value.pointer none), AV.v (Value.int IntKind.i32 (0)), AV.v (Value.int IntKind.i32 (0))]) : Option AV) := by kernel_rfl
@[go_sem] theorem tund_86 : tund Try.prog 86 = true := by kernel_rfl
@[go_sem] theorem tsz_86 : tsz Try.prog 86 = 1 := by kernel_rfl
@[go_sem] theorem tel_86 : tel Try.prog 86 = (none : Option TypeId) := by kernel_rfl
@[go_sem] theorem tarr_86 : tarr Try.prog 86 = (none : Option (Nat × TypeId)) := by kernel_rfl
@[go_sem] theorem tfld_86 : tfld Try.prog 86 = (none : Option (List (Nat × TypeId))) := by kernel_rfl
@[go_sem] theorem tint_86 : tint Try.prog 86 = (none : Option IntKind) := by kernel_rfl
@[go_sem] theorem tstr_86 : tstr Try.prog 86 = false := by kernel_rfl
@[go_sem] theorem tagg_86 : tagg Try.prog 86 = (some false : Option Bool) := by kernel_rfl
@[go_sem] theorem tby_86 : tby Try.prog 86 = 8 := by kernel_rfl
@[go_sem] theorem tkind_86 : tkind Try.prog 86 = (none : Option Nat) := by kernel_rfl
@[go_sem] theorem teq_86 : teq Try.prog 86 = (none : Option (List Nat)) := by kernel_rfl
@[go_sem] theorem tzA_86 : tzA Try.prog 86 = (some (AV.v (Value.pointer none)) : Option AV) := by kernel_rfl
end Go.Proofs.Ytmiahmpobpokmaa

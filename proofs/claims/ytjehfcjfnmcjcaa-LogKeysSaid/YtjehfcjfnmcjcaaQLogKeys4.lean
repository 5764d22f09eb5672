/- What the statement's proof needs, part 4. -/
import Derived.Test.YtjehfcjfnmcjcaaQLogKeys3
set_option linter.all false
namespace Go.Proofs.Ytjehfcjfnmcjcaa
open Go Go.Abs

def c_law22_LogKeys : CC := .seq (.reg [⟨some 6, .mov (.c (.bool false)), none⟩]) (.seq (.seq (.reg [⟨some 16, .mov (.t 1), none⟩, ⟨some 17, .bin .lss (.t 16) (.c (.int .i64 0)), none⟩, ⟨some 18, .mov (.t 17), none⟩, ⟨some 19, .mov (.t 1), some (18, false)⟩, ⟨some 20, .bin .gtr (.t 19) (.c (.int .i64 9)), some (18, false)⟩, ⟨some 21, .pick (.t 18) (.c (.bool true)) (.t 20), none⟩]) (.cond (.t 21) (.seq (.reg [⟨some 6, .mov (.c (.bool true)), none⟩]) .ret) .skip)) (.seq (.reg [⟨some 23, .mov (.t 0), none⟩, ⟨some 24, .call 21 [.c (.int .i64 4), .c (.int .u64 9), .t 23], none⟩, ⟨some 22, .mov (.t 24), none⟩, ⟨some 25, .ext 0 (.t 22), none⟩, ⟨some 26, .ext 1 (.t 22), none⟩, ⟨some 7, .mov (.t 25), none⟩, ⟨some 8, .mov (.t 26), none⟩]) (.seq (.seq (.reg [⟨some 27, .mov (.t 7), none⟩, ⟨some 28, .eqv .p false (.t 27) (.c .nilp), none⟩]) (.cond (.t 28) (.seq (.reg [⟨some 6, .mov (.c (.bool false)), none⟩]) .ret) .skip)) (.seq (.reg [⟨some 30, .call 50 [.c (.int .u64 0)], none⟩, ⟨some 29, .mov (.t 30), none⟩, ⟨some 31, .ext 0 (.t 29), none⟩, ⟨some 32, .ext 1 (.t 29), none⟩, ⟨some 9, .mov (.t 31), none⟩, ⟨some 10, .mov (.t 32), none⟩]) (.seq (.reg [⟨some 33, .build [.int .u64 0, .int .u32 0, .int .i64 0, .int .u64 0, .int .u64 0] [(0, 1, .c (.int .u64 6)), (2, 1, .c (.int .i64 4))], none⟩, ⟨some 11, .alloc [.int .u64 0, .int .u32 0, .int .i64 0, .int .u64 0, .int .u64 0], none⟩, ⟨none, .store 5 (.t 11) (.t 33), none⟩]) (.seq (.seq (.reg [⟨some 34, .mov (.t 7), none⟩, ⟨some 35, .mov (.t 9), none⟩, ⟨some 36, .load 5 true (.t 11), none⟩, ⟨some 37, .call 51 [.t 34, .t 35, .t 36], none⟩, ⟨some 38, .bin .neq (.t 37) (.c (.int .i64 0)), none⟩]) (.cond (.t 38) (.seq (.reg [⟨some 6, .mov (.c (.bool false)), none⟩]) .ret) .skip)) (.seq (.seq (.reg [⟨some 12, .mov (.c (.int .i64 0)), none⟩]) (.block 0 (.loop (.seq (.seq (.reg [⟨some 39, .mov (.t 12), none⟩, ⟨some 40, .mov (.t 1), none⟩, ⟨some 41, .bin .lss (.t 39) (.t 40), none⟩]) (.cond (.t 41) .skip (.exit 0))) (.seq (.block 1 (.reg [⟨some 44, .mov (.t 7), none⟩, ⟨some 45, .nilck (.t 44), none⟩, ⟨some 46, .faddr 5 (.t 45), none⟩, ⟨some 47, .load 1 false (.t 46), none⟩, ⟨some 48, .call 42 [.t 47], none⟩])) (.reg [⟨some 42, .mov (.t 12), none⟩, ⟨some 43, .bin .add (.t 42) (.c (.int .i64 1)), none⟩, ⟨some 12, .mov (.t 43), none⟩])))))) (.seq (.reg [⟨some 49, .mov (.t 7), none⟩, ⟨some 50, .nilck (.t 49), none⟩, ⟨some 51, .faddr 5 (.t 50), none⟩, ⟨some 52, .load 1 false (.t 51), none⟩, ⟨some 53, .mov (.t 2), none⟩, ⟨some 54, .call 57 [.t 52, .t 53], none⟩]) (.seq (.reg [⟨some 56, .mov (.t 7), none⟩, ⟨some 57, .call 52 [.t 56, .c (.int .u64 6)], none⟩, ⟨some 55, .mov (.t 57), none⟩, ⟨some 58, .ext 0 (.t 55), none⟩, ⟨some 59, .ext 1 (.t 55), none⟩, ⟨some 13, .alloc [.int .u64 0, .int .u32 0, .int .i64 0, .int .u64 0, .int .u64 0], none⟩, ⟨none, .store 5 (.t 13) (.t 58), none⟩, ⟨some 14, .mov (.t 59), none⟩]) (.seq (.reg [⟨some 60, .mov (.t 1), none⟩, ⟨some 61, .bin .eql (.t 60) (.c (.int .i64 0)), none⟩, ⟨some 62, .mov (.t 61), none⟩, ⟨some 63, .mov (.t 2), some (62, false)⟩, ⟨some 64, .bin .leq (.t 63) (.c (.int .u32 1)), some (62, false)⟩, ⟨some 65, .pick (.t 62) (.c (.bool true)) (.t 64), none⟩, ⟨some 15, .mov (.t 65), none⟩]) (.seq (.reg [⟨some 66, .mov (.t 14), none⟩, ⟨some 67, .bin .eql (.t 66) (.c (.int .i64 0)), none⟩, ⟨some 68, .mov (.t 15), none⟩, ⟨some 69, .eqv .b false (.t 67) (.t 68), none⟩, ⟨some 70, .mov (.t 69), none⟩, ⟨some 71, .mov (.t 14), some (70, true)⟩, ⟨some 72, .bin .eql (.t 71) (.c (.int .i64 0)), some (70, true)⟩, ⟨some 73, .mov (.t 72), some (70, true)⟩, ⟨some 74, .mov (.t 14), some (73, false)⟩, ⟨some 75, .bin .eql (.t 74) (.c (.int .i64 3)), some (73, false)⟩, ⟨some 76, .pick (.t 73) (.c (.bool true)) (.t 75), some (70, true)⟩, ⟨some 77, .pick (.t 70) (.t 76) (.c (.bool false)), none⟩, ⟨some 78, .mov (.t 77), none⟩, ⟨some 79, .mov (.t 15), some (78, true)⟩, ⟨some 80, .not (.t 79), some (78, true)⟩, ⟨some 81, .mov (.t 80), some (78, true)⟩, ⟨some 82, .load 5 true (.t 13), some (81, false)⟩, ⟨some 83, .load 5 true (.t 11), some (81, false)⟩, ⟨some 84, .eqv (.a [.i, .i, .i, .i, .i]) false (.t 82) (.t 83), some (81, false)⟩, ⟨some 85, .pick (.t 81) (.c (.bool true)) (.t 84), some (78, true)⟩, ⟨some 86, .pick (.t 78) (.t 85) (.c (.bool false)), none⟩, ⟨some 87, .mov (.t 86), none⟩, ⟨some 88, .call 53 [], some (87, true)⟩, ⟨some 89, .pick (.t 87) (.t 88) (.c (.bool false)), none⟩, ⟨some 6, .mov (.t 89), none⟩]) .ret)))))))))))
theorem is_law22_LogKeys : FnIs Try.prog 13 90 c_law22_LogKeys [.t 6] := ⟨Try.f13, _, Try.func13, rfl, rfl, by kernel_rfl, by kernel_rfl⟩

def c_law22_known : CC := .seq (.reg [⟨some 0, .mov (.c (.bool false)), none⟩]) (.seq (.reg [⟨some 8, .call 21 [.c (.int .i64 4), .c (.int .u64 1), .c (.bool true)], none⟩, ⟨some 7, .mov (.t 8), none⟩, ⟨some 9, .ext 0 (.t 7), none⟩, ⟨some 10, .ext 1 (.t 7), none⟩, ⟨some 1, .mov (.t 9), none⟩, ⟨some 2, .mov (.t 10), none⟩]) (.seq (.reg [⟨some 12, .mov (.t 1), none⟩, ⟨some 13, .call 52 [.t 12, .c (.int .u64 0)], none⟩, ⟨some 11, .mov (.t 13), none⟩, ⟨some 14, .ext 0 (.t 11), none⟩, ⟨some 15, .ext 1 (.t 11), none⟩, ⟨some 3, .alloc [.int .u64 0, .int .u32 0, .int .i64 0, .int .u64 0, .int .u64 0], none⟩, ⟨none, .store 5 (.t 3) (.t 14), none⟩, ⟨some 4, .mov (.t 15), none⟩]) (.seq (.reg [⟨some 17, .call 52 [.c .nilp, .c (.int .u64 0)], none⟩, ⟨some 16, .mov (.t 17), none⟩, ⟨some 18, .ext 0 (.t 16), none⟩, ⟨some 19, .ext 1 (.t 16), none⟩, ⟨some 5, .alloc [.int .u64 0, .int .u32 0, .int .i64 0, .int .u64 0, .int .u64 0], none⟩, ⟨none, .store 5 (.t 5) (.t 18), none⟩, ⟨some 6, .mov (.t 19), none⟩]) (.seq (.reg [⟨some 20, .mov (.t 4), none⟩, ⟨some 21, .bin .eql (.t 20) (.c (.int .i64 3)), none⟩, ⟨some 22, .mov (.t 21), none⟩, ⟨some 23, .mov (.t 6), some (22, true)⟩, ⟨some 24, .bin .eql (.t 23) (.c (.int .i64 1)), some (22, true)⟩, ⟨some 25, .pick (.t 22) (.t 24) (.c (.bool false)), none⟩, ⟨some 0, .mov (.t 25), none⟩]) .ret))))
theorem is_law22_known : FnIs Try.prog 53 26 c_law22_known [.t 0] := ⟨Try.f53, _, Try.func53, rfl, rfl, by kernel_rfl, by kernel_rfl⟩

def c_log_Get : CC := .seq (.reg [⟨some 4, .alloc [.int .u64 0, .int .u32 0, .int .i64 0, .int .u64 0, .int .u64 0], none⟩, ⟨some 5, .mov (.c (.int .i64 0)), none⟩]) (.seq (.seq (.reg [⟨some 9, .mov (.t 0), none⟩, ⟨some 10, .eqv .p false (.t 9) (.c .nilp), none⟩]) (.cond (.t 10) (.seq (.reg [⟨some 11, .build [.int .u64 0, .int .u32 0, .int .i64 0, .int .u64 0, .int .u64 0] [], none⟩, ⟨none, .store 5 (.t 4) (.t 11), none⟩, ⟨some 5, .mov (.c (.int .i64 1)), none⟩]) .ret) .skip)) (.seq (.dreg [⟨some 13, .mov (.t 0), none⟩, ⟨some 14, .nilck (.t 13), none⟩, ⟨some 15, .faddr 2 (.t 14), none⟩, ⟨some 16, .load 1 false (.t 15), none⟩, ⟨some 17, .mov (.t 0), none⟩, ⟨some 18, .mov (.t 1), none⟩, ⟨some 19, .call 95 [.t 17, .t 18], none⟩, ⟨some 20, .call 39 [.t 16, .t 19, .c (.int .i64 60)], none⟩, ⟨some 12, .mov (.t 20), none⟩, ⟨some 21, .ext 0 (.t 12), none⟩, ⟨some 22, .ext 1 (.t 12), none⟩, ⟨some 6, .mov (.t 21), none⟩, ⟨some 7, .mov (.t 22), none⟩] [[], [0], [1], [2], [], [], [4, 5], [3, 6, 6], [7], [8], [8], [9, 7, 0, 1, 2, 3, 4, 5, 6, 7, 8, 9], [10, 11, 0, 1, 2, 3, 4, 5, 6, 7, 8, 9, 10, 11]]) (.seq (.seq (.reg [⟨some 23, .mov (.t 7), none⟩, ⟨some 24, .not (.t 23), none⟩]) (.cond (.t 24) (.seq (.reg [⟨some 25, .build [.int .u64 0, .int .u32 0, .int .i64 0, .int .u64 0, .int .u64 0] [], none⟩, ⟨none, .store 5 (.t 4) (.t 25), none⟩, ⟨some 5, .mov (.c (.int .i64 7)), none⟩]) .ret) .skip)) (.seq (.reg [⟨some 27, .mov (.t 0), none⟩, ⟨some 28, .mov (.t 6), none⟩, ⟨some 29, .call 96 [.t 27, .t 28], none⟩, ⟨some 26, .mov (.t 29), none⟩, ⟨some 30, .ext 0 (.t 26), none⟩, ⟨some 31, .ext 1 (.t 26), none⟩, ⟨some 8, .alloc [.int .u64 0, .int .u32 0, .int .i64 0, .int .u64 0, .int .u64 0], none⟩, ⟨none, .store 5 (.t 8) (.t 30), none⟩, ⟨some 7, .mov (.t 31), none⟩]) (.seq (.seq (.dreg [⟨some 32, .mov (.t 7), none⟩, ⟨some 33, .not (.t 32), none⟩, ⟨some 34, .mov (.t 33), none⟩, ⟨some 35, .faddr 0 (.t 8), some (34, false)⟩, ⟨some 36, .load 1 false (.t 35), some (34, false)⟩, ⟨some 37, .mov (.t 1), some (34, false)⟩, ⟨some 38, .bin .neq (.t 36) (.t 37), some (34, false)⟩, ⟨some 39, .pick (.t 34) (.c (.bool true)) (.t 38), none⟩, ⟨some 40, .mov (.t 39), none⟩, ⟨some 41, .faddr 2 (.t 8), some (40, false)⟩, ⟨some 42, .load 1 false (.t 41), some (40, false)⟩, ⟨some 43, .mov (.t 0), some (40, false)⟩, ⟨some 44, .nilck (.t 43), some (40, false)⟩, ⟨some 45, .faddr 0 (.t 44), some (40, false)⟩, ⟨some 46, .faddr 0 (.t 45), some (40, false)⟩, ⟨some 47, .load 1 false (.t 46), some (40, false)⟩, ⟨some 48, .bin .neq (.t 42) (.t 47), some (40, false)⟩, ⟨some 49, .pick (.t 40) (.c (.bool true)) (.t 48), none⟩] [[], [0], [1], [2], [3, 2], [2], [4, 5, 2], [2, 6], [7, 2], [8], [9, 8], [8], [11, 8], [12, 8], [13, 8], [14, 8], [10, 15, 8], [8, 16]]) (.cond (.t 49) (.seq (.reg [⟨some 50, .build [.int .u64 0, .int .u32 0, .int .i64 0, .int .u64 0, .int .u64 0] [], none⟩, ⟨none, .store 5 (.t 4) (.t 50), none⟩, ⟨some 5, .mov (.c (.int .i64 3)), none⟩]) .ret) .skip)) (.seq (.reg [⟨some 51, .load 5 true (.t 8), none⟩, ⟨none, .store 5 (.t 4) (.t 51), none⟩, ⟨some 5, .mov (.c (.int .i64 0)), none⟩]) .ret))))))
theorem is_log_Get : FnIs Try.prog 52 52 c_log_Get [.cell 4 5 true, .t 5] := ⟨Try.f52, _, Try.func52, rfl, rfl, by kernel_rfl, by kernel_rfl⟩

def c_log_Put : CC := .seq (.reg [⟨some 5, .box 5 (.t 2), none⟩, ⟨some 6, .mov (.c (.int .i64 0)), none⟩]) (.seq (.reg [⟨some 18, .load 5 true (.t 5), none⟩, ⟨some 19, .call 92 [.t 18], none⟩, ⟨some 17, .mov (.t 19), none⟩, ⟨some 20, .ext 0 (.t 17), none⟩, ⟨some 21, .ext 1 (.t 17), none⟩, ⟨some 7, .mov (.t 20), none⟩, ⟨some 8, .mov (.t 21), none⟩]) (.seq (.seq (.dreg [⟨some 22, .mov (.t 0), none⟩, ⟨some 23, .eqv .p false (.t 22) (.c .nilp), none⟩, ⟨some 24, .mov (.t 23), none⟩, ⟨some 25, .mov (.t 8), some (24, false)⟩, ⟨some 26, .not (.t 25), some (24, false)⟩, ⟨some 27, .pick (.t 24) (.c (.bool true)) (.t 26), none⟩, ⟨some 28, .mov (.t 27), none⟩, ⟨some 29, .faddr 2 (.t 5), some (28, false)⟩, ⟨some 30, .load 1 false (.t 29), some (28, false)⟩, ⟨some 31, .mov (.t 0), some (28, false)⟩, ⟨some 32, .nilck (.t 31), some (28, false)⟩, ⟨some 33, .faddr 0 (.t 32), some (28, false)⟩, ⟨some 34, .faddr 0 (.t 33), some (28, false)⟩, ⟨some 35, .load 1 false (.t 34), some (28, false)⟩, ⟨some 36, .bin .neq (.t 30) (.t 35), some (28, false)⟩, ⟨some 37, .pick (.t 28) (.c (.bool true)) (.t 36), none⟩] [[], [0], [1], [2], [3, 2], [2, 4], [5, 2], [6], [7, 6], [6], [9, 6], [10, 6], [11, 6], [12, 6], [8, 13, 6], [6, 14]]) (.cond (.t 37) (.seq (.reg [⟨some 6, .mov (.c (.int .i64 1)), none⟩]) .ret) .skip)) (.seq (.reg [⟨some 39, .mov (.t 0), none⟩, ⟨some 40, .call 24 [.t 39], none⟩, ⟨some 38, .mov (.t 40), none⟩, ⟨some 41, .ext 0 (.t 38), none⟩, ⟨some 42, .ext 1 (.t 38), none⟩, ⟨some 10, .alloc [.int .u64 0, .int .u64 0], none⟩, ⟨some 9, .mov (.t 41), none⟩, ⟨none, .store 2 (.t 10) (.t 42), none⟩]) (.seq (.reg [⟨some 44, .mov (.t 1), none⟩, ⟨some 45, .mov (.t 9), none⟩, ⟨some 46, .call 93 [.t 44, .t 45, .c (.int .i64 65535)], none⟩, ⟨some 43, .mov (.t 46), none⟩, ⟨some 47, .ext 0 (.t 43), none⟩, ⟨some 48, .ext 1 (.t 43), none⟩, ⟨some 11, .alloc [.int .u32 0, .int .u32 0, .int .u64 0], none⟩, ⟨none, .store 3 (.t 11) (.t 47), none⟩, ⟨some 12, .mov (.t 48), none⟩]) (.seq (.seq (.reg [⟨some 49, .mov (.t 12), none⟩, ⟨some 50, .bin .neq (.t 49) (.c (.int .i64 0)), none⟩]) (.cond (.t 50) (.seq (.reg [⟨some 51, .mov (.t 12), none⟩, ⟨some 6, .mov (.t 51), none⟩]) .ret) .skip)) (.seq (.dreg [⟨some 53, .mov (.t 0), none⟩, ⟨some 54, .nilck (.t 53), none⟩, ⟨some 55, .faddr 6 (.t 54), none⟩, ⟨some 56, .load 1 false (.t 55), none⟩, ⟨some 57, .load 2 true (.t 10), none⟩, ⟨some 58, .load 3 true (.t 11), none⟩, ⟨some 59, .mov (.t 7), none⟩, ⟨some 60, .call 25 [.t 56, .t 57, .t 58, .c .nils, .t 59], none⟩, ⟨some 52, .mov (.t 60), none⟩, ⟨some 61, .ext 0 (.t 52), none⟩, ⟨some 62, .ext 1 (.t 52), none⟩, ⟨some 13, .alloc [.nils, .int .u64 0, .int .u64 0], none⟩, ⟨none, .store 3 (.t 13) (.t 61), none⟩, ⟨some 14, .mov (.t 62), none⟩] [[], [0], [1], [2], [], [], [], [3, 4, 5, 6], [7], [8], [8], [], [11, 9, 7, 0, 1, 2, 3, 4, 5, 6, 7, 8, 9, 11], [10, 12, 0, 1, 2, 3, 4, 5, 6, 7, 8, 9, 10, 11, 12]]) (.seq (.reg [⟨some 64, .load 3 true (.t 11), none⟩, ⟨some 65, .load 3 true (.t 13), none⟩, ⟨some 66, .call 94 [.t 64, .t 65], none⟩, ⟨some 63, .mov (.t 66), none⟩, ⟨some 67, .ext 0 (.t 63), none⟩, ⟨some 68, .ext 1 (.t 63), none⟩, ⟨some 15, .mov (.t 67), none⟩, ⟨some 16, .mov (.t 68), none⟩]) (.seq (.seq (.dreg [⟨some 69, .mov (.t 0), none⟩, ⟨some 70, .nilck (.t 69), none⟩, ⟨some 71, .faddr 2 (.t 70), none⟩, ⟨some 72, .load 1 false (.t 71), none⟩, ⟨some 73, .mov (.t 0), none⟩, ⟨some 74, .faddr 0 (.t 5), none⟩, ⟨some 75, .load 1 false (.t 74), none⟩, ⟨some 76, .call 95 [.t 73, .t 75], none⟩, ⟨some 77, .mov (.t 15), none⟩, ⟨some 78, .call 33 [.t 72, .t 76, .t 77], none⟩, ⟨some 79, .not (.t 78), none⟩] [[], [0], [1], [2], [], [], [5], [4, 6], [], [3, 7, 8, 7], [9]]) (.cond (.t 79) (.seq (.reg [⟨some 6, .mov (.c (.int .i64 7)), none⟩]) .ret) .skip)) (.seq (.reg [⟨some 6, .mov (.c (.int .i64 0)), none⟩]) .ret)))))))))
theorem is_log_Put : FnIs Try.prog 51 80 c_log_Put [.t 6] := ⟨Try.f51, _, Try.func51, rfl, rfl, by kernel_rfl, by kernel_rfl⟩

def c_log_opened : CC := .seq (.reg [⟨some 4, .alloc [.int .u64 0, .int .u32 0, .int .i64 0, .int .u64 0, .int .u64 0], none⟩, ⟨some 5, .mov (.c (.bool false)), none⟩]) (.seq (.reg [⟨some 13, .mov (.t 1), none⟩, ⟨some 14, .call 125 [.t 13], none⟩, ⟨some 12, .mov (.t 14), none⟩, ⟨some 15, .ext 0 (.t 12), none⟩, ⟨some 16, .ext 1 (.t 12), none⟩, ⟨some 17, .ext 2 (.t 12), none⟩, ⟨some 6, .alloc [.int .u32 0, .int .u32 0, .int .u64 0], none⟩, ⟨some 7, .alloc [.nils, .int .u64 0, .int .u64 0], none⟩, ⟨none, .store 3 (.t 6) (.t 15), none⟩, ⟨none, .store 3 (.t 7) (.t 16), none⟩, ⟨some 8, .mov (.t 17), none⟩]) (.seq (.dreg [⟨some 19, .mov (.t 0), none⟩, ⟨some 20, .nilck (.t 19), none⟩, ⟨some 21, .faddr 5 (.t 20), none⟩, ⟨some 22, .load 1 false (.t 21), none⟩, ⟨some 23, .faddr 0 (.t 6), none⟩, ⟨some 24, .load 1 false (.t 23), none⟩, ⟨some 25, .call 74 [.t 22, .t 24], none⟩, ⟨some 18, .mov (.t 25), none⟩, ⟨some 26, .ext 0 (.t 18), none⟩, ⟨some 27, .ext 1 (.t 18), none⟩, ⟨some 9, .alloc [.int .u64 0, .int .u64 0], none⟩, ⟨none, .store 2 (.t 9) (.t 26), none⟩, ⟨some 10, .mov (.t 27), none⟩] [[], [0], [1], [2], [], [4], [3, 5], [6], [7], [7], [], [10, 8, 6, 0, 1, 2, 3, 4, 5, 6, 7, 8, 10], [9, 11, 0, 1, 2, 3, 4, 5, 6, 7, 8, 9, 10, 11]]) (.seq (.seq (.dreg [⟨some 28, .mov (.t 8), none⟩, ⟨some 29, .not (.t 28), none⟩, ⟨some 30, .mov (.t 29), none⟩, ⟨some 31, .mov (.t 10), some (30, false)⟩, ⟨some 32, .not (.t 31), some (30, false)⟩, ⟨some 33, .pick (.t 30) (.c (.bool true)) (.t 32), none⟩, ⟨some 34, .mov (.t 33), none⟩, ⟨some 35, .load 3 true (.t 6), some (34, false)⟩, ⟨some 36, .call 126 [.t 35], some (34, false)⟩, ⟨some 37, .mov (.t 0), some (34, false)⟩, ⟨some 38, .nilck (.t 37), some (34, false)⟩, ⟨some 39, .faddr 4 (.t 38), some (34, false)⟩, ⟨some 40, .load 1 false (.t 39), some (34, false)⟩, ⟨some 41, .call 127 [.t 40], some (34, false)⟩, ⟨some 42, .bin .neq (.t 36) (.t 41), some (34, false)⟩, ⟨some 43, .pick (.t 34) (.c (.bool true)) (.t 42), none⟩] [[], [0], [1], [2], [3, 2], [2, 4], [5, 2], [6], [7, 6, 6], [6], [9, 6], [10, 6], [11, 6], [12, 8, 6], [8, 13, 6], [6, 14]]) (.cond (.t 43) (.seq (.reg [⟨some 44, .build [.int .u64 0, .int .u32 0, .int .i64 0, .int .u64 0, .int .u64 0] [], none⟩, ⟨none, .store 5 (.t 4) (.t 44), none⟩, ⟨some 5, .mov (.c (.bool false)), none⟩]) .ret) .skip)) (.seq (.dreg [⟨some 46, .mov (.t 0), none⟩, ⟨some 47, .nilck (.t 46), none⟩, ⟨some 48, .faddr 6 (.t 47), none⟩, ⟨some 49, .load 1 false (.t 48), none⟩, ⟨some 50, .load 2 true (.t 9), none⟩, ⟨some 51, .load 3 true (.t 6), none⟩, ⟨some 52, .load 3 true (.t 7), none⟩, ⟨some 53, .call 128 [.t 49, .t 50, .t 51, .c .nils, .t 52], none⟩, ⟨some 45, .mov (.t 53), none⟩, ⟨some 54, .ext 0 (.t 45), none⟩, ⟨some 55, .ext 1 (.t 45), none⟩, ⟨some 11, .mov (.t 54), none⟩, ⟨some 8, .mov (.t 55), none⟩] [[], [0], [1], [2], [], [], [], [3, 4, 5, 6], [7], [8], [8], [9, 7, 0, 1, 2, 3, 4, 5, 6, 7, 8, 9], [10, 11, 0, 1, 2, 3, 4, 5, 6, 7, 8, 9, 10, 11]]) (.seq (.seq (.reg [⟨some 56, .mov (.t 8), none⟩, ⟨some 57, .not (.t 56), none⟩]) (.cond (.t 57) (.seq (.reg [⟨some 58, .build [.int .u64 0, .int .u32 0, .int .i64 0, .int .u64 0, .int .u64 0] [], none⟩, ⟨none, .store 5 (.t 4) (.t 58), none⟩, ⟨some 5, .mov (.c (.bool false)), none⟩]) .ret) .skip)) (.seq (.reg [⟨some 59, .mov (.t 11), none⟩, ⟨some 60, .call 129 [.t 59], none⟩, ⟨some 61, .ext 0 (.t 60), none⟩, ⟨some 62, .ext 1 (.t 60), none⟩, ⟨none, .store 5 (.t 4) (.t 61), none⟩, ⟨some 5, .mov (.t 62), none⟩]) .ret))))))
theorem is_log_opened : FnIs Try.prog 96 63 c_log_opened [.cell 4 5 true, .t 5] := ⟨Try.f96, _, Try.func96, rfl, rfl, by kernel_rfl, by kernel_rfl⟩

def c_log_place : CC := .seq (.reg [⟨some 4, .mov (.c (.int .i64 0)), none⟩]) (.seq (.reg [⟨some 5, .mov (.t 0), none⟩, ⟨some 6, .nilck (.t 5), none⟩, ⟨some 7, .faddr 0 (.t 6), none⟩, ⟨some 8, .load 1 true (.t 7), none⟩, ⟨some 9, .mov (.t 1), none⟩, ⟨some 10, .bin .rem (.t 9) (.c (.int .u64 2)), none⟩, ⟨some 11, .conv .i64 (.t 10), none⟩, ⟨some 12, .call 107 [.t 8, .t 11], none⟩, ⟨some 4, .mov (.t 12), none⟩]) .ret)
theorem is_log_place : FnIs Try.prog 95 13 c_log_place [.t 4] := ⟨Try.f95, _, Try.func95, rfl, rfl, by kernel_rfl, by kernel_rfl⟩

def c_nonce_Boot : CC := .seq (.reg [⟨some 1, .box 3 (.t 0), none⟩, ⟨some 2, .mov (.c (.int .u64 0)), none⟩]) (.seq (.reg [⟨some 3, .faddr 2 (.t 1), none⟩, ⟨some 4, .load 1 false (.t 3), none⟩, ⟨some 5, .sh .shr (.t 4) (.c (.int .u64 32)), none⟩, ⟨some 2, .mov (.t 5), none⟩]) .ret)
theorem is_nonce_Boot : FnIs Try.prog 126 6 c_nonce_Boot [.t 2] := ⟨Try.f126, _, Try.func126, rfl, rfl, by kernel_rfl, by kernel_rfl⟩

def c_nonce_Maker_Left : CC := .seq (.reg [⟨some 2, .mov (.c (.int .i64 0)), none⟩]) (.seq (.seq (.reg [⟨some 3, .mov (.t 0), none⟩, ⟨some 4, .eqv .p false (.t 3) (.c .nilp), none⟩]) (.cond (.t 4) (.seq (.reg [⟨some 2, .mov (.c (.int .i64 0)), none⟩]) .ret) .skip)) (.seq (.reg [⟨some 5, .mov (.t 0), none⟩, ⟨some 6, .nilck (.t 5), none⟩, ⟨some 7, .faddr 1 (.t 6), none⟩, ⟨some 8, .load 1 false (.t 7), none⟩, ⟨some 9, .bin .sub (.c (.int .i64 100)) (.t 8), none⟩, ⟨some 2, .mov (.t 9), none⟩]) .ret))
theorem is_nonce_Maker_Left : FnIs Try.prog 124 10 c_nonce_Maker_Left [.t 2] := ⟨Try.f124, _, Try.func124, rfl, rfl, by kernel_rfl, by kernel_rfl⟩

def c_nonce_Maker_Next : CC := .seq (.reg [⟨some 6, .alloc [.int .u32 0, .int .u32 0, .int .u64 0], none⟩, ⟨some 7, .mov (.c (.int .i64 0)), none⟩]) (.seq (.block 0 (.seq (.reg [⟨some 9, .mov (.t 2), none⟩, ⟨some 10, .bin .lss (.t 9) (.c (.int .i64 0)), none⟩, ⟨some 11, .mov (.t 10), none⟩, ⟨some 12, .mov (.t 2), some (11, false)⟩, ⟨some 13, .bin .gtr (.t 12) (.c (.int .i64 65535)), some (11, false)⟩, ⟨some 14, .pick (.t 11) (.c (.bool true)) (.t 13), none⟩, ⟨some 8, .mov (.t 14), none⟩]) (.cond (.t 8) (.seq (.reg [⟨some 15, .build [.int .u32 0, .int .u32 0, .int .u64 0] [], none⟩, ⟨none, .store 3 (.t 6) (.t 15), none⟩, ⟨some 7, .mov (.c (.int .i64 1)), none⟩]) .ret) (.seq (.reg [⟨some 17, .mov (.t 0), none⟩, ⟨some 18, .call 124 [.t 17], none⟩, ⟨some 19, .bin .eql (.t 18) (.c (.int .i64 0)), none⟩, ⟨some 16, .mov (.t 19), none⟩]) (.cond (.t 16) (.seq (.reg [⟨some 20, .build [.int .u32 0, .int .u32 0, .int .u64 0] [], none⟩, ⟨none, .store 3 (.t 6) (.t 20), none⟩, ⟨some 7, .mov (.c (.int .i64 6)), none⟩]) .ret) .skip))))) (.seq (.reg [⟨some 21, .mov (.t 0), none⟩, ⟨some 22, .nilck (.t 21), none⟩, ⟨some 23, .faddr 1 (.t 22), none⟩, ⟨some 24, .load 1 false (.t 23), none⟩, ⟨some 25, .bin .add (.t 24) (.c (.int .i64 1)), none⟩, ⟨some 26, .nilck (.t 21), none⟩, ⟨some 27, .faddr 1 (.t 26), none⟩, ⟨none, .store 1 (.t 27) (.t 25), none⟩]) (.seq (.dreg [⟨some 28, .mov (.t 1), none⟩, ⟨some 29, .mov (.t 2), none⟩, ⟨some 30, .conv .u32 (.t 29), none⟩, ⟨some 31, .mov (.t 0), none⟩, ⟨some 32, .nilck (.t 31), none⟩, ⟨some 33, .faddr 0 (.t 32), none⟩, ⟨some 34, .load 1 false (.t 33), none⟩, ⟨some 35, .sh .shl (.t 34) (.c (.int .u64 32)), none⟩, ⟨some 36, .mov (.t 0), none⟩, ⟨some 37, .nilck (.t 36), none⟩, ⟨some 38, .faddr 1 (.t 37), none⟩, ⟨some 39, .load 1 false (.t 38), none⟩, ⟨some 40, .conv .u64 (.t 39), none⟩, ⟨some 41, .bin .add (.t 35) (.t 40), none⟩, ⟨some 42, .build [.int .u32 0, .int .u32 0, .int .u64 0] [(0, 1, .t 28), (1, 1, .t 30), (2, 1, .t 41)], none⟩, ⟨none, .store 3 (.t 6) (.t 42), none⟩, ⟨some 7, .mov (.c (.int .i64 0)), none⟩] [[], [], [1], [], [3], [4], [5], [6], [], [8], [9], [10], [11], [7, 12], [0, 2, 13], [14, 0, 1, 2, 3, 4, 5, 6, 7, 8, 9, 10, 11, 12, 13, 14], [15, 0, 1, 2, 3, 4, 5, 6, 7, 8, 9, 10, 11, 12, 13, 14, 15]]) .ret)))
theorem is_nonce_Maker_Next : FnIs Try.prog 93 43 c_nonce_Maker_Next [.cell 6 3 true, .t 7] := ⟨Try.f93, _, Try.func93, rfl, rfl, by kernel_rfl, by kernel_rfl⟩

def c_nonce_New : CC := .seq (.reg [⟨some 2, .mov (.c .nilp), none⟩, ⟨some 3, .mov (.c (.int .i64 0)), none⟩]) (.seq (.seq (.reg [⟨some 4, .mov (.t 0), none⟩, ⟨some 5, .bin .gtr (.t 4) (.c (.int .u64 4294967295)), none⟩]) (.cond (.t 5) (.seq (.reg [⟨some 2, .mov (.c .nilp), none⟩, ⟨some 3, .mov (.c (.int .i64 1)), none⟩]) .ret) .skip)) (.seq (.reg [⟨some 6, .mov (.t 0), none⟩, ⟨some 7, .build [.int .u64 0, .int .i64 0] [(0, 1, .t 6)], none⟩, ⟨some 8, .box 2 (.t 7), none⟩, ⟨some 2, .mov (.t 8), none⟩, ⟨some 3, .mov (.c (.int .i64 0)), none⟩]) .ret))
theorem is_nonce_New : FnIs Try.prog 50 9 c_nonce_New [.t 2, .t 3] := ⟨Try.f50, _, Try.func50, rfl, rfl, by kernel_rfl, by kernel_rfl⟩

def c_root_Get : CC := .seq (.reg [⟨some 2, .alloc [.int .u64 0, .int .u32 0, .int .i64 0, .int .u64 0, .int .u64 0], none⟩, ⟨some 3, .mov (.c (.bool false)), none⟩]) (.seq (.reg [⟨some 15, .mov (.t 0), none⟩, ⟨some 16, .bsl 1 [.c (.int .i64 8), .c (.int .i64 4), .c (.int .i64 4), .c (.int .i64 16)], none⟩, ⟨some 17, .call 121 [.t 15, .t 16], none⟩, ⟨some 14, .mov (.t 17), none⟩, ⟨some 18, .ext 0 (.t 14), none⟩, ⟨some 19, .ext 1 (.t 14), none⟩, ⟨some 4, .mov (.t 18), none⟩, ⟨some 5, .mov (.t 19), none⟩]) (.seq (.seq (.reg [⟨some 20, .mov (.t 5), none⟩, ⟨some 21, .not (.t 20), none⟩]) (.cond (.t 21) (.seq (.reg [⟨some 22, .build [.int .u64 0, .int .u32 0, .int .i64 0, .int .u64 0, .int .u64 0] [], none⟩, ⟨none, .store 5 (.t 2) (.t 22), none⟩, ⟨some 3, .mov (.c (.bool false)), none⟩]) .ret) .skip)) (.seq (.reg [⟨some 24, .mov (.t 4), none⟩, ⟨some 25, .iaddr 1 (.t 24) (.c (.int .i64 0)), none⟩, ⟨some 26, .load 1 false (.t 25), none⟩, ⟨some 27, .call 122 [.t 26], none⟩, ⟨some 23, .mov (.t 27), none⟩, ⟨some 28, .ext 0 (.t 23), none⟩, ⟨some 29, .ext 1 (.t 23), none⟩, ⟨some 6, .mov (.t 28), none⟩, ⟨some 7, .mov (.t 29), none⟩]) (.seq (.reg [⟨some 31, .mov (.t 4), none⟩, ⟨some 32, .iaddr 1 (.t 31) (.c (.int .i64 1)), none⟩, ⟨some 33, .load 1 false (.t 32), none⟩, ⟨some 34, .call 122 [.t 33], none⟩, ⟨some 30, .mov (.t 34), none⟩, ⟨some 35, .ext 0 (.t 30), none⟩, ⟨some 36, .ext 1 (.t 30), none⟩, ⟨some 8, .mov (.t 35), none⟩, ⟨some 9, .mov (.t 36), none⟩]) (.seq (.reg [⟨some 38, .mov (.t 4), none⟩, ⟨some 39, .iaddr 1 (.t 38) (.c (.int .i64 2)), none⟩, ⟨some 40, .load 1 false (.t 39), none⟩, ⟨some 41, .call 122 [.t 40], none⟩, ⟨some 37, .mov (.t 41), none⟩, ⟨some 42, .ext 0 (.t 37), none⟩, ⟨some 43, .ext 1 (.t 37), none⟩, ⟨some 10, .mov (.t 42), none⟩, ⟨some 11, .mov (.t 43), none⟩]) (.seq (.reg [⟨some 45, .mov (.t 4), none⟩, ⟨some 46, .iaddr 1 (.t 45) (.c (.int .i64 3)), none⟩, ⟨some 47, .load 1 false (.t 46), none⟩, ⟨some 48, .call 97 [.t 47], none⟩, ⟨some 44, .mov (.t 48), none⟩, ⟨some 49, .ext 0 (.t 44), none⟩, ⟨some 50, .ext 1 (.t 44), none⟩, ⟨some 12, .alloc [.int .u64 0, .int .u64 0], none⟩, ⟨none, .store 2 (.t 12) (.t 49), none⟩, ⟨some 13, .mov (.t 50), none⟩]) (.seq (.seq (.reg [⟨some 51, .mov (.t 10), none⟩, ⟨some 52, .conv .i64 (.t 51), none⟩, ⟨some 53, .call 123 [.t 52], none⟩, ⟨some 54, .not (.t 53), none⟩]) (.cond (.t 54) (.seq (.reg [⟨some 55, .build [.int .u64 0, .int .u32 0, .int .i64 0, .int .u64 0, .int .u64 0] [], none⟩, ⟨none, .store 5 (.t 2) (.t 55), none⟩, ⟨some 3, .mov (.c (.bool false)), none⟩]) .ret) .skip)) (.seq (.reg [⟨some 56, .mov (.t 6), none⟩, ⟨some 57, .mov (.t 8), none⟩, ⟨some 58, .conv .u32 (.t 57), none⟩, ⟨some 59, .mov (.t 10), none⟩, ⟨some 60, .conv .i64 (.t 59), none⟩, ⟨some 61, .load 2 true (.t 12), none⟩, ⟨some 62, .build [.int .u64 0, .int .u32 0, .int .i64 0, .int .u64 0, .int .u64 0] [(0, 1, .t 56), (1, 1, .t 58), (2, 1, .t 60), (3, 2, .t 61)], none⟩, ⟨none, .store 5 (.t 2) (.t 62), none⟩, ⟨some 3, .mov (.c (.bool true)), none⟩]) .ret))))))))
theorem is_root_Get : FnIs Try.prog 129 63 c_root_Get [.cell 2 5 true, .t 3] := ⟨Try.f129, _, Try.func129, rfl, rfl, by kernel_rfl, by kernel_rfl⟩

def c_root_GetRec : CC := .seq (.reg [⟨some 2, .alloc [.int .u32 0, .int .u32 0, .int .u64 0], none⟩, ⟨some 3, .alloc [.nils, .int .u64 0, .int .u64 0], none⟩, ⟨some 4, .mov (.c (.bool false)), none⟩]) (.seq (.reg [⟨some 14, .mov (.t 0), none⟩, ⟨some 15, .bsl 1 [.c (.int .i64 4), .c (.int .i64 8), .c (.int .i64 32), .c (.int .i64 16)], none⟩, ⟨some 16, .call 121 [.t 14, .t 15], none⟩, ⟨some 13, .mov (.t 16), none⟩, ⟨some 17, .ext 0 (.t 13), none⟩, ⟨some 18, .ext 1 (.t 13), none⟩, ⟨some 5, .mov (.t 17), none⟩, ⟨some 6, .mov (.t 18), none⟩]) (.seq (.seq (.reg [⟨some 19, .mov (.t 6), none⟩, ⟨some 20, .not (.t 19), none⟩]) (.cond (.t 20) (.seq (.reg [⟨some 21, .build [.int .u32 0, .int .u32 0, .int .u64 0] [], none⟩, ⟨some 22, .build [.nils, .int .u64 0, .int .u64 0] [], none⟩, ⟨none, .store 3 (.t 2) (.t 21), none⟩, ⟨none, .store 3 (.t 3) (.t 22), none⟩, ⟨some 4, .mov (.c (.bool false)), none⟩]) .ret) .skip)) (.seq (.reg [⟨some 24, .mov (.t 5), none⟩, ⟨some 25, .iaddr 1 (.t 24) (.c (.int .i64 0)), none⟩, ⟨some 26, .load 1 false (.t 25), none⟩, ⟨some 27, .call 122 [.t 26], none⟩, ⟨some 23, .mov (.t 27), none⟩, ⟨some 28, .ext 0 (.t 23), none⟩, ⟨some 29, .ext 1 (.t 23), none⟩, ⟨some 7, .mov (.t 28), none⟩, ⟨some 8, .mov (.t 29), none⟩]) (.seq (.reg [⟨some 31, .mov (.t 5), none⟩, ⟨some 32, .iaddr 1 (.t 31) (.c (.int .i64 1)), none⟩, ⟨some 33, .load 1 false (.t 32), none⟩, ⟨some 34, .call 122 [.t 33], none⟩, ⟨some 30, .mov (.t 34), none⟩, ⟨some 35, .ext 0 (.t 30), none⟩, ⟨some 36, .ext 1 (.t 30), none⟩, ⟨some 9, .mov (.t 35), none⟩, ⟨some 10, .mov (.t 36), none⟩]) (.seq (.reg [⟨some 38, .mov (.t 5), none⟩, ⟨some 39, .iaddr 1 (.t 38) (.c (.int .i64 3)), none⟩, ⟨some 40, .load 1 false (.t 39), none⟩, ⟨some 41, .call 97 [.t 40], none⟩, ⟨some 37, .mov (.t 41), none⟩, ⟨some 42, .ext 0 (.t 37), none⟩, ⟨some 43, .ext 1 (.t 37), none⟩, ⟨some 11, .alloc [.int .u64 0, .int .u64 0], none⟩, ⟨none, .store 2 (.t 11) (.t 42), none⟩, ⟨some 12, .mov (.t 43), none⟩]) (.seq (.dreg [⟨some 44, .mov (.t 7), none⟩, ⟨some 45, .conv .u32 (.t 44), none⟩, ⟨some 46, .mov (.t 9), none⟩, ⟨some 47, .build [.int .u32 0, .int .u32 0, .int .u64 0] [(0, 1, .t 45), (1, 1, .c (.int .u32 65535)), (2, 1, .t 46)], none⟩, ⟨some 48, .mov (.t 5), none⟩, ⟨some 49, .iaddr 1 (.t 48) (.c (.int .i64 2)), none⟩, ⟨some 50, .load 1 false (.t 49), none⟩, ⟨some 51, .load 2 true (.t 11), none⟩, ⟨some 52, .build [.nils, .int .u64 0, .int .u64 0] [(0, 1, .t 50), (1, 2, .t 51)], none⟩, ⟨none, .store 3 (.t 2) (.t 47), none⟩, ⟨none, .store 3 (.t 3) (.t 52), none⟩, ⟨some 4, .mov (.c (.bool true)), none⟩] [[], [0], [], [1, 2], [], [4], [5], [], [6, 7], [3, 0, 1, 2, 3], [8, 9, 0, 1, 2, 3, 4, 5, 6, 7, 8, 9], [10, 0, 1, 2, 3, 4, 5, 6, 7, 8, 9, 10]]) .ret))))))
theorem is_root_GetRec : FnIs Try.prog 125 53 c_root_GetRec [.cell 2 3 true, .cell 3 3 true, .t 4] := ⟨Try.f125, _, Try.func125, rfl, rfl, by kernel_rfl, by kernel_rfl⟩

def c_root_Put : CC := .seq (.reg [⟨some 1, .box 5 (.t 0), none⟩, ⟨some 2, .mov (.c .nils), none⟩, ⟨some 3, .mov (.c (.bool false)), none⟩]) (.seq (.seq (.reg [⟨some 4, .faddr 2 (.t 1), none⟩, ⟨some 5, .load 1 false (.t 4), none⟩, ⟨some 6, .call 123 [.t 5], none⟩, ⟨some 7, .not (.t 6), none⟩]) (.cond (.t 7) (.seq (.reg [⟨some 2, .mov (.c .nils), none⟩, ⟨some 3, .mov (.c (.bool false)), none⟩]) .ret) .skip)) (.seq (.dreg [⟨some 8, .faddr 0 (.t 1), none⟩, ⟨some 9, .load 1 false (.t 8), none⟩, ⟨some 10, .call 59 [.t 9, .c (.int .i64 8)], none⟩, ⟨some 11, .faddr 1 (.t 1), none⟩, ⟨some 12, .load 1 false (.t 11), none⟩, ⟨some 13, .conv .u64 (.t 12), none⟩, ⟨some 14, .call 59 [.t 13, .c (.int .i64 4)], none⟩, ⟨some 15, .faddr 2 (.t 1), none⟩, ⟨some 16, .load 1 false (.t 15), none⟩, ⟨some 17, .conv .u64 (.t 16), none⟩, ⟨some 18, .call 59 [.t 17, .c (.int .i64 4)], none⟩, ⟨some 19, .faddr 3 (.t 1), none⟩, ⟨some 20, .load 2 true (.t 19), none⟩, ⟨some 21, .call 88 [.t 20], none⟩, ⟨some 22, .bsl 1 [.t 10, .t 14, .t 18, .t 21], none⟩, ⟨some 23, .call 63 [.t 22], none⟩, ⟨some 2, .mov (.t 23), none⟩, ⟨some 3, .mov (.c (.bool true)), none⟩] [[], [0], [1], [], [3], [4], [5, 2], [], [7], [8], [9, 6], [], [11], [12, 10], [2, 6, 10, 13], [14, 13], [15, 15, 0, 1, 2, 3, 4, 5, 6, 7, 8, 9, 10, 11, 12, 13, 14, 15], [16, 0, 1, 2, 3, 4, 5, 6, 7, 8, 9, 10, 11, 12, 13, 14, 15, 16]]) .ret))
theorem is_root_Put : FnIs Try.prog 92 24 c_root_Put [.t 2, .t 3] := ⟨Try.f92, _, Try.func92, rfl, rfl, by kernel_rfl, by kernel_rfl⟩

def c_root_PutRec : CC := .seq (.reg [⟨some 2, .box 3 (.t 0), none⟩, ⟨some 3, .box 3 (.t 1), none⟩, ⟨some 4, .mov (.c .nils), none⟩, ⟨some 5, .mov (.c (.bool false)), none⟩]) (.seq (.seq (.reg [⟨some 6, .faddr 0 (.t 3), none⟩, ⟨some 7, .load 1 false (.t 6), none⟩, ⟨some 8, .len (.t 7), none⟩, ⟨some 9, .bin .neq (.t 8) (.c (.int .i64 32)), none⟩, ⟨some 10, .mov (.t 9), none⟩, ⟨some 11, .faddr 1 (.t 2), some (10, false)⟩, ⟨some 12, .load 1 false (.t 11), some (10, false)⟩, ⟨some 13, .bin .neq (.t 12) (.c (.int .u32 65535)), some (10, false)⟩, ⟨some 14, .pick (.t 10) (.c (.bool true)) (.t 13), none⟩]) (.cond (.t 14) (.seq (.reg [⟨some 4, .mov (.c .nils), none⟩, ⟨some 5, .mov (.c (.bool false)), none⟩]) .ret) .skip)) (.seq (.dreg [⟨some 15, .faddr 0 (.t 2), none⟩, ⟨some 16, .load 1 false (.t 15), none⟩, ⟨some 17, .conv .u64 (.t 16), none⟩, ⟨some 18, .call 59 [.t 17, .c (.int .i64 4)], none⟩, ⟨some 19, .faddr 2 (.t 2), none⟩, ⟨some 20, .load 1 false (.t 19), none⟩, ⟨some 21, .call 59 [.t 20, .c (.int .i64 8)], none⟩, ⟨some 22, .faddr 0 (.t 3), none⟩, ⟨some 23, .load 1 false (.t 22), none⟩, ⟨some 24, .faddr 1 (.t 3), none⟩, ⟨some 25, .load 2 true (.t 24), none⟩, ⟨some 26, .call 88 [.t 25], none⟩, ⟨some 27, .bsl 1 [.t 18, .t 21, .t 23, .t 26], none⟩, ⟨some 28, .call 63 [.t 27], none⟩, ⟨some 4, .mov (.t 28), none⟩, ⟨some 5, .mov (.c (.bool true)), none⟩] [[], [0], [1], [2], [], [4], [5, 3], [], [7], [], [9], [10, 6], [3, 6, 8, 11], [12, 11], [13, 13, 0, 1, 2, 3, 4, 5, 6, 7, 8, 9, 10, 11, 12, 13], [14, 0, 1, 2, 3, 4, 5, 6, 7, 8, 9, 10, 11, 12, 13, 14]]) .ret))
theorem is_root_PutRec : FnIs Try.prog 94 29 c_root_PutRec [.t 4, .t 5] := ⟨Try.f94, _, Try.func94, rfl, rfl, by kernel_rfl, by kernel_rfl⟩

def c_root_isSlots : CC := .seq (.reg [⟨some 2, .mov (.c (.bool false)), none⟩]) (.seq (.reg [⟨some 3, .mov (.t 0), none⟩, ⟨some 4, .bin .eql (.t 3) (.c (.int .i64 4)), none⟩, ⟨some 5, .mov (.t 4), none⟩, ⟨some 6, .mov (.t 0), some (5, false)⟩, ⟨some 7, .bin .eql (.t 6) (.c (.int .i64 8)), some (5, false)⟩, ⟨some 8, .pick (.t 5) (.c (.bool true)) (.t 7), none⟩, ⟨some 9, .mov (.t 8), none⟩, ⟨some 10, .mov (.t 0), some (9, false)⟩, ⟨some 11, .bin .eql (.t 10) (.c (.int .i64 16)), some (9, false)⟩, ⟨some 12, .pick (.t 9) (.c (.bool true)) (.t 11), none⟩, ⟨some 2, .mov (.t 12), none⟩]) .ret)
theorem is_root_isSlots : FnIs Try.prog 123 13 c_root_isSlots [.t 2] := ⟨Try.f123, _, Try.func123, rfl, rfl, by kernel_rfl, by kernel_rfl⟩

def c_wire_Cut : CC := .seq (.reg [⟨some 4, .mov (.c .nils), none⟩, ⟨some 5, .mov (.c (.bool false)), none⟩]) (.seq (.reg [⟨some 9, .bsl0, none⟩, ⟨some 6, .mov (.t 9), none⟩]) (.seq (.seq (.reg [⟨some 10, .mov (.t 1), none⟩, ⟨some 11, .len (.t 10), none⟩, ⟨some 12, .mov (.c (.int .i64 0)), none⟩]) (.block 0 (.loop (.seq (.reg [⟨some 13, .bin .lss (.t 12) (.t 11), none⟩]) (.seq (.cond (.t 13) .skip (.exit 0)) (.seq (.block 1 (.seq (.reg [⟨some 14, .iaddr 1 (.t 10) (.t 12), none⟩, ⟨some 15, .load 1 false (.t 14), none⟩, ⟨some 8, .mov (.t 15), none⟩]) (.seq (.seq (.reg [⟨some 16, .mov (.t 8), none⟩, ⟨some 17, .bin .lss (.t 16) (.c (.int .i64 0)), none⟩, ⟨some 18, .mov (.t 17), none⟩, ⟨some 19, .mov (.t 8), some (18, false)⟩, ⟨some 20, .mov (.t 0), some (18, false)⟩, ⟨some 21, .len (.t 20), some (18, false)⟩, ⟨some 22, .bin .gtr (.t 19) (.t 21), some (18, false)⟩, ⟨some 23, .pick (.t 18) (.c (.bool true)) (.t 22), none⟩]) (.cond (.t 23) (.seq (.reg [⟨some 4, .mov (.c .nils), none⟩, ⟨some 5, .mov (.c (.bool false)), none⟩]) .ret) .skip)) (.seq (.reg [⟨some 24, .mov (.t 6), none⟩, ⟨some 25, .mov (.t 0), none⟩, ⟨some 26, .mov (.t 8), none⟩, ⟨some 27, .slc 1 (.t 25) none (some (.t 26)), none⟩, ⟨some 28, .call 60 [.t 27], none⟩, ⟨some 29, .bsl 1 [.t 28], none⟩, ⟨some 30, .app 1 24 (.t 24) (.t 29), none⟩, ⟨some 6, .mov (.t 30), none⟩]) (.reg [⟨some 31, .mov (.t 0), none⟩, ⟨some 32, .mov (.t 8), none⟩, ⟨some 33, .slc 1 (.t 31) (some (.t 32)) none, none⟩, ⟨some 0, .mov (.t 33), none⟩]))))) (.reg [⟨some 34, .bin .add (.t 12) (.c (.int .i64 1)), none⟩, ⟨some 12, .mov (.t 34), none⟩]))))))) (.seq (.seq (.reg [⟨some 35, .mov (.t 0), none⟩, ⟨some 36, .len (.t 35), none⟩, ⟨some 37, .bin .gtr (.t 36) (.c (.int .i64 0)), none⟩]) (.cond (.t 37) (.seq (.reg [⟨some 4, .mov (.c .nils), none⟩, ⟨some 5, .mov (.c (.bool false)), none⟩]) .ret) .skip)) (.seq (.reg [⟨some 38, .mov (.t 6), none⟩, ⟨some 4, .mov (.t 38), none⟩, ⟨some 5, .mov (.c (.bool true)), none⟩]) .ret))))
theorem is_wire_Cut : FnIs Try.prog 121 39 c_wire_Cut [.t 4, .t 5] := ⟨Try.f121, _, Try.func121, rfl, rfl, by kernel_rfl, by kernel_rfl⟩

end Go.Proofs.Ytjehfcjfnmcjcaa


namespace Go.Proofs.Ytjehfcjfnmcjcaa
open Go Go.Abs

/-- In the middle of a sequence: what the first part leaves. -/
theorem WW.thenI {P : Program} {N : Nat} {c : CC} {e : Env} {h : AHeap} {K : Env → AHeap → Prop} {Q : Exit → Env → AHeap → Prop} (I : Env → AHeap → Prop) (h1 : WW P N c (fun x e h => x = .normal ∧ I e h) e h) (h2 : ∀ e h, I e h → K e h) : WW P N c (thenQ K Q) e h :=
  ⟨h1.out.mono fun x e h hq => by
    obtain ⟨rfl, hi⟩ := hq
    exact thenN (h2 e h hi)⟩
theorem getS_nat (v : Nat) (hv : v < 72057594037927936) (c : UInt8) : getS (v : Int) c = ((v * 256 + c.toNat : Nat) : Int) := by
  have hc := c.toNat_lt
  have h1 : shl64 (v : Int) 8 = ((v * 256 : Nat) : Int) := by
    show ((v : Int) * 256) % 18446744073709551616 = _
    omega
  rw [getS, h1]
  show ((((BitVec.ofInt 64 ((v * 256 : Nat) : Int)) ||| (BitVec.ofInt 64 ((c.toNat : Nat) : Int))).toNat : Nat) : Int) % 18446744073709551616 = _
  rw [BitVec.ofInt_natCast, BitVec.ofInt_natCast, BitVec.toNat_or, BitVec.toNat_ofNat, BitVec.toNat_ofNat, Nat.mod_eq_of_lt (by omega), Nat.mod_eq_of_lt (by omega)]
  have h2 : v * 256 ||| c.toNat = v * 256 + c.toNat := by
    have := Nat.shiftLeft_add_eq_or_of_lt (i := 8) (b := c.toNat) (by omega) v
    rw [Nat.shiftLeft_eq] at this
    exact this.symm
  rw [h2]
  omega
def valB (b : Bs) (v : Nat) : Nat := b.foldl (fun v c => v * 256 + c.toNat) v
theorem getS_val : ∀ (b : Bs) (v k : Nat), v < 256 ^ k → k + b.length ≤ 8 → b.foldl getS (v : Int) = (valB b v : Int) ∧ valB b v < 256 ^ (k + b.length)
  | [], v, k, hv, _ => ⟨rfl, hv⟩
  | c :: r, v, k, hv, hk => by
    simp only [List.length_cons] at hk
    have hc := c.toNat_lt
    have h7 : 256 ^ k ≤ 256 ^ 7 := Nat.pow_le_pow_right (by decide) (by omega)
    have h8 : (256 : Nat) ^ 7 = 72057594037927936 := by decide
    rw [List.foldl_cons, getS_nat v (by omega) c]
    have h9 : v * 256 + c.toNat < 256 ^ (k + 1) := by rw [Nat.pow_succ]; omega
    have := getS_val r (v * 256 + c.toNat) (k + 1) h9 (by omega)
    simp only [valB, List.foldl_cons, List.length_cons] at this ⊢
    rw [show k + (r.length + 1) = k + 1 + r.length by omega]
    exact this
theorem getB_val (b : Bs) (hb : b.length ≤ 8) : getB b = (valB b 0 : Int) ∧ valB b 0 < 256 ^ b.length := by
  have := getS_val b 0 0 (by decide) (by omega)
  rw [Nat.zero_add] at this
  exact this
theorem getB_rng (b : Bs) (k : Nat) (hb : b.length = k) (hk : k ≤ 8) : 0 ≤ getB b ∧ getB b < ((256 ^ k : Nat) : Int) := by
  obtain ⟨h1, h2⟩ := getB_val b (by omega)
  rw [hb] at h2
  rw [h1]
  exact ⟨Int.natCast_nonneg _, Int.ofNat_lt.2 h2⟩
theorem byteOf_toNat (v : Int) (n i : Nat) : ((byteOf v n i).toNat : Int) = (v / 2 ^ (8 * (n - 1 - i))) % 256 := by
  rw [byteOf, UInt8.toNat_ofNat']
  have h5 := Int.emod_nonneg (v / 2 ^ (8 * (n - 1 - i))) (show (256 : Int) ≠ 0 by decide)
  have h6 := Int.emod_lt_of_pos (v / 2 ^ (8 * (n - 1 - i))) (show (0 : Int) < 256 by decide)
  omega
theorem putB_lenN (v : Int) (n : Nat) (hn : 1 ≤ n ∧ n ≤ 8) : (putB v n).length = n := by
  rw [putB, if_neg (by omega)]; simp
theorem get_put1 (v : Int) (hv : 0 ≤ v ∧ v < 256) : getB (putB v 1) = v := by
  have hl := putB_lenN v 1 (by decide)
  rw [(getB_val _ (by omega)).1]
  have h0 := byteOf_toNat v 1 0
  simp only [Nat.reduceSub, Nat.reduceMul, Nat.sub_zero, Int.reducePow] at h0
  simp only [putB, show ¬ ((1 : Nat) < 1 ∨ 8 < 1) by decide, if_false, valB, List.range, List.range.loop, List.map_cons, List.map_nil, List.foldl_cons, List.foldl_nil]
  omega
theorem get_put2 (v : Int) (hv : 0 ≤ v ∧ v < 65536) : getB (putB v 2) = v := by
  have hl := putB_lenN v 2 (by decide)
  rw [(getB_val _ (by omega)).1]
  have h0 := byteOf_toNat v 2 0
  have h1 := byteOf_toNat v 2 1
  simp only [Nat.reduceSub, Nat.reduceMul, Nat.sub_zero, Int.reducePow] at h0 h1
  simp only [putB, show ¬ ((2 : Nat) < 1 ∨ 8 < 2) by decide, if_false, valB, List.range, List.range.loop, List.map_cons, List.map_nil, List.foldl_cons, List.foldl_nil]
  omega
theorem get_put4 (v : Int) (hv : 0 ≤ v ∧ v < 4294967296) : getB (putB v 4) = v := by
  have hl := putB_lenN v 4 (by decide)
  rw [(getB_val _ (by omega)).1]
  have h0 := byteOf_toNat v 4 0
  have h1 := byteOf_toNat v 4 1
  have h2 := byteOf_toNat v 4 2
  have h3 := byteOf_toNat v 4 3
  simp only [Nat.reduceSub, Nat.reduceMul, Nat.sub_zero, Int.reducePow] at h0 h1 h2 h3
  simp only [putB, show ¬ ((4 : Nat) < 1 ∨ 8 < 4) by decide, if_false, valB, List.range, List.range.loop, List.map_cons, List.map_nil, List.foldl_cons, List.foldl_nil]
  omega
theorem get_put8 (v : Int) (hv : 0 ≤ v ∧ v < 18446744073709551616) : getB (putB v 8) = v := by
  have hl := putB_lenN v 8 (by decide)
  rw [(getB_val _ (by omega)).1]
  have h0 := byteOf_toNat v 8 0
  have h1 := byteOf_toNat v 8 1
  have h2 := byteOf_toNat v 8 2
  have h3 := byteOf_toNat v 8 3
  have h4 := byteOf_toNat v 8 4
  have h5 := byteOf_toNat v 8 5
  have h6 := byteOf_toNat v 8 6
  have h7 := byteOf_toNat v 8 7
  simp only [Nat.reduceSub, Nat.reduceMul, Nat.sub_zero, Int.reducePow] at h0 h1 h2 h3 h4 h5 h6 h7
  simp only [putB, show ¬ ((8 : Nat) < 1 ∨ 8 < 8) by decide, if_false, valB, List.range, List.range.loop, List.map_cons, List.map_nil, List.foldl_cons, List.foldl_nil]
  omega
theorem pairF_B (p : Pr) (h1 : 0 ≤ p.1 ∧ p.1 < 18446744073709551616) (h2 : 0 ≤ p.2 ∧ p.2 < 18446744073709551616) : pairF (pairB p) = p := by
  simp only [pairF, pairB]
  rw [List.take_left' (by simp), List.drop_left' (by simp), get_put8 _ h1, get_put8 _ h2]
/-- A row cut into rows of these lengths. -/
def cutL : Bs → List Nat → List Bs
  | _, [] => []
  | b, n :: r => b.take n :: cutL (b.drop n) r
theorem cutL_snoc : ∀ (ns : List Nat) (b : Bs) (n : Nat), cutL b (ns ++ [n]) = cutL b ns ++ [(b.drop ns.sum).take n]
  | [], b, n => by simp [cutL]
  | m :: r, b, n => by
    rw [List.cons_append, cutL, cutL_snoc r, cutL, List.cons_append, List.drop_drop, List.sum_cons]
def encZ (n : Nat) : List AV := [.int .i64 n]
theorem clo_imm {n : Nat} {l : List Bs} {N : Nat → Prop} : ∀ x ∈ l.map encR, ∀ v ∈ x, Clo N v := fun x hx v hv => by
  obtain ⟨b, _, rfl⟩ := List.mem_map.1 hx
  simp only [encR, List.mem_singleton] at hv
  subst hv
  exact .imm _ _ fun y hy u hu => by
    obtain ⟨c, _, rfl⟩ := List.mem_map.1 hy
    exact clo_flat (by simp only [encB, List.mem_singleton] at hu; subst hu; rfl)
theorem fz_rowsA {h h1 : AHeap} {id g : Nat} {l l' : List Bs} (e : l = l') : Fz h h1 (.app id g 1 (l.map encR)) (.imm 1 (l'.map encR)) := by
  subst e; exact .app _ _ _ _ (clo_imm (n := 0))
theorem wire_Cut_ae (b : Bs) (hb : b.length ≤ 100000) (ns : List Nat) (hn : ns.length ≤ 1000) (hm : ∀ n ∈ ns, n ≤ 100000) (h : AHeap) :
    AE Try.prog 121 [.imm 1 (b.map encB), .imm 1 (ns.map encZ)] h (.tup [.imm 1 ((if b.length = ns.sum then cutL b ns else []).map encR), .bool (decide (b.length = ns.sum))]) h := by
  refine AE.pureW is_wire_Cut (by simp) ?_
  unfold c_wire_Cut
  (refine go ?_)
  refine WW.cvt (Cvt.adopt 1 (s := 6) rfl gN) ?_
  refine WW.loopE (fun (i : Nat) => [(0, some (.imm 1 ((b.drop (ns.take i).sum).map encB))), (6, some (.app h.next 0 1 ((cutL b (ns.take i)).map encR))), (10, some (.imm 1 (ns.map encZ))), (11, some (.int .i64 ns.length)), (12, some (.int .i64 i))])
    (fun i h' => h'.get h.next = some (.tail 0 i) ∧ Keeps h h' ∧ h.next + 1 ≤ h'.next ∧ i ≤ ns.length ∧ (ns.take i).sum ≤ b.length) (fun i => ns.length - i) 0 gSUB ⟨gH, gK, (leN gN (by omega)), Nat.zero_le _, by simp⟩ ?_
  rintro i h' ⟨g1, g2, g3, g4, g5⟩
  obtain ⟨nx, hnx⟩ : ∃ nx, h'.next = nx := ⟨_, rfl⟩
  have hlen : (cutL b (ns.take i)).length = i := by
    have : ∀ (l : List Nat) (b : Bs), (cutL b l).length = l.length := fun l => by
      induction l with
      | nil => intro b; rfl
      | cons n r ih => intro b; simp [cutL, ih]
    rw [this, List.length_take, Nat.min_eq_left g4]
  have hdl : (b.drop (ns.take i).sum).length = b.length - (ns.take i).sum := List.length_drop
  (refine go ?_)
  (refine WW.ifB rfl (fun hz1 => ?_) (fun hz1 => ?_))
  · have hi : i < ns.length := by omega
    have hni := hm ns[i] (List.getElem_mem hi)
    have hsplit : ns.take (i + 1) = ns.take i ++ [ns[i]] := List.take_succ_eq_append_getElem hi
    have hsum : (ns.take (i + 1)).sum = (ns.take i).sum + ns[i] := by rw [hsplit, List.sum_append]; simp
    have hle : (ns.take (i + 1)).sum ≤ ns.sum := by
      have := congrArg List.sum (List.take_append_drop (i + 1) ns)
      rw [List.sum_append] at this; omega
    (refine go ?_)
    (refine WW.ifB rfl (fun hz3 => ?_) (fun hz3 => ?_))
    · (refine go ?_)
      refine WW.ret (PureQ.finD ?_)
      have hne : ¬ b.length = ns.sum := by omega
      rw [if_neg hne, decide_eq_false hne]
      exact Fz.tup2 (.nil _) (fz_b rfl)
    (refine go ?_)
    rw [show List.take ns[i] ((b.drop (ns.take i).sum).map encB) = (((b.drop (ns.take i).sum).take ns[i])).map encB by rw [List.map_take]]
    refine WL.call rfl (by first | exact True.intro | exact rfl) gSL (bytes_Clone_ae _ (by rw [List.length_take]; omega) _) ?_
    (refine go ?_)
    refine ⟨i + 1, ?_, ⟨(by repeat first | exact get_put_tl (by first | rfl | exact List.length_map _ | (simp; done) | (simp; omega)) | exact get_set_tl (by first | rfl | exact List.length_map _ | (simp; done) | (simp; omega)) | assumption | with_reducible apply get_put_neE (by omega) | with_reducible apply get_set_neE (by omega)), gK, (leN gN (by omega)), by omega, by omega⟩, by omega⟩
    have e1 : List.drop ns[i] ((b.drop (ns.take i).sum).map encB) = (b.drop (ns.take (i + 1)).sum).map encB := by rw [← List.map_drop, List.drop_drop, hsum]
    have e2 : (cutL b (ns.take (i + 1))).map encR = (cutL b (ns.take i)).map encR ++ [[.imm 1 (((b.drop (ns.take i).sum).take ns[i]).map encB)]] := by rw [hsplit, cutL_snoc, List.map_append]; rfl
    rw [e2]
    simp only [List.take_length, List.length_map] at e1 ⊢
    rw [← e1]
    rw [show (b.drop (ns.take i).sum).length = ((b.drop (ns.take i).sum).map encB).length by rw [List.length_map], List.take_length]
    exact gSUB
  · have hi : i = ns.length := by omega
    subst hi
    rw [List.take_length] at *
    (refine go ?_)
    (refine WW.ifB rfl (fun hz4 => ?_) (fun hz4 => ?_))
    · (refine go ?_)
      refine WW.ret (PureQ.finD ?_)
      have hne : ¬ b.length = ns.sum := by omega
      rw [if_neg hne, decide_eq_false hne]
      exact Fz.tup2 (.nil _) (fz_b rfl)
    · (refine go ?_)
      refine WW.ret (PureQ.finD ?_)
      have he : b.length = ns.sum := by omega
      rw [if_pos he, decide_eq_true he]
      exact Fz.tup2 (fz_rowsA rfl) (fz_b rfl)
end Go.Proofs.Ytjehfcjfnmcjcaa


namespace Go.Proofs.Ytjehfcjfnmcjcaa
open Go Go.Abs

theorem AE.back {P : Program} {f : Nat} {vs : List AV} {h h1 : AHeap} {r r1 : AV} (hac : AE P f vs h r1 h1) (hk : Keeps h h1) (hz : Fz h h1 r1 r) : AE P f vs h r h := by
  intro m w cargs hr hl hv
  refine (hac m w cargs hr hl hv).mono fun ex w' ⟨v, m', r2, h2, e1, g1, g2, g3, e2, e3⟩ => ?_
  subst e2 e3
  have hs : ∀ id x, h.get id = some x → h2.get id = some x := fun id x hg => (hk.2 id (hr.live id x hg)).trans hg
  exact ⟨v, m', r, h, e1, back_hr hr g1 hs, hz.vr g1 hs hr.live g2, back_step g3 hr hs, rfl, rfl⟩
theorem gcm_pairsI_ae (b : Bs) (hb : b.length ≤ 4000) (h : AHeap) : AE Try.prog 145 [.imm 1 (b.map encB)] h (.imm 2 ((pairsF b).map encP)) h :=
  AE.back (gcm_pairs_ae rfl b hb) gK (fz_app rfl (flatPs _))
theorem pairsF_le (n : Nat) : ∀ b : Bs, b.length ≤ n → (pairsF b).length ≤ n := by
  induction n with
  | zero => intro b hb; obtain rfl : b = [] := List.length_eq_zero_iff.1 (by omega); simp [pairsF, rowsF_nil]
  | succ n ih =>
    intro b hb
    by_cases h0 : b = []
    · subst h0; simp [pairsF, rowsF_nil]
    · have h1 : 0 < b.length := List.length_pos_iff.2 h0
      rw [pairsF_cons h0, List.length_cons]
      have := ih (b.drop 16) (by simp; omega)
      omega
def tagL (head b : Bs) : List Pr := pairsF head ++ pairsF b ++ [((head.length : Int), (b.length : Int))]
theorem tag_row (head b : Bs) : List.map encP (pairsF head) ++ List.map encP (pairsF b) ++ [[AV.int .u64 (head.length : Int), AV.int .u64 (b.length : Int)]] = (tagL head b).map encP := by simp [tagL, encP]
theorem tagF_L (sub : Pr) (head b : Bs) : tagF sub head b = addF (evalF (encF sub (0, 1)) (tagL head b)) (encF sub (0, 0)) := rfl
attribute [local irreducible] encF mulF addF evalF pairsF tagL
theorem gcm_Tag_ae (sub : Pr) (head b : Bs) (h1 : head.length ≤ 4000) (h2 : b.length ≤ 4000) (h : AHeap) : AE Try.prog 138 [.agg (encP sub), .imm 1 (head.map encB), .imm 1 (b.map encB)] h (.agg (encP (tagF sub head b))) h := by
  have p1 := pairsF_le _ head h1
  have p2 := pairsF_le _ b h2
  refine AE.pureW is_gcm_Tag (by simp) ?_
  unfold c_gcm_Tag
  (refine go ?_)
  refine WL.call rfl (by first | exact True.intro | exact rfl) gSL (gcm_pairs_ae (nx := h.next + 2) gN head h1) ?_
  (refine go ?_)
  refine WL.call rfl (by first | exact True.intro | exact rfl) gSL (gcm_pairsI_ae b h2 _) ?_
  (refine go ?_)
  rw [tag_row]
  refine WL.call rfl (by first | exact True.intro | exact rfl) gSL (speck_Encrypt_ae sub (0, 1) _) ?_
  (refine go ?_)
  refine DW.callS rfl (by first | exact True.intro | exact rfl) gSL rfl (field_Eval_ae _ (tagL head b) (by simp [tagL]; omega) _) ?_
  (refine go ?_)
  refine DW.callS rfl (by first | exact True.intro | exact rfl) gSL rfl (speck_Encrypt_ae sub (0, 0) _) ?_
  (refine go ?_)
  refine DW.callS rfl (by first | exact True.intro | exact rfl) gSL rfl (field_Add_ae _ _ _) ?_
  (refine go ?_)
  refine WW.ret (PureQ.finD ?_)
  exact fz_agg (by rw [tagF_L]; rfl) (flatP (addF _ _))
end Go.Proofs.Ytjehfcjfnmcjcaa


namespace Go.Proofs.Ytjehfcjfnmcjcaa
open Go Go.Abs

theorem gcm_may_ae (a b : Bs) (h1 : a.length ≤ 4000) (h2 : b.length ≤ 4000) (h : AHeap) : AE Try.prog 134 [.imm 1 (a.map encB), .imm 1 (b.map encB)] h (.bool true) h := by
  refine AE.pureW is_gcm_may (by simp) ?_
  unfold c_gcm_may
  (refine go ?_)
  (apply WL.andB; exact rfl; exact rfl; exact rfl; exact BP.of; intro hz1)
  · (repeat first | (apply GW.goS; exact Stp.auto) | apply GW.nil | exact rfl)
  (refine go ?_)
  refine WW.ret (PureQ.finD ?_)
  exact fz_b (by simp; omega)
theorem gcmB_len (key : Pr) (n : Nn) (data : Bs) : (gcmB key n data).length = data.length := by rw [gcmB, xorB_len (flowF_len _ _)]
theorem fz_seal {h h1 : AHeap} (b : Bs) (t : Pr) : Fz h h1 (.tup [.agg (encS b t), .bool true]) (.tup [.agg (encS b t), .bool true]) := Fz.tup2 (.clo _ (.agg _ (clo_encS b t))) (fz_b rfl)
attribute [local irreducible] encF mulF addF evalF pairsF tagL subF flowF tagF xorB
theorem gcm_Seal_ae (key : Pr) (n : Nn) (head data : Bs) (h1 : head.length ≤ 4000) (h2 : data.length ≤ 4000) (h : AHeap) : AE Try.prog 104 [.agg (encP key), .agg (encN n), .imm 1 (head.map encB), .imm 1 (data.map encB)] h (.tup [.agg (encS (gcmB key n data) (gcmT key n head (gcmB key n data))), .bool true]) h := by
  refine AE.pureW is_gcm_Seal (by simp) ?_
  unfold c_gcm_Seal
  (refine go ?_)
  refine WL.call rfl (by first | exact True.intro | exact rfl) gSL (gcm_may_ae head data h1 h2 _) ?_
  (refine go ?_)
  refine WL.call rfl (by first | exact True.intro | exact rfl) gSL (flow_Sub_ae key n _) ?_
  (refine go ?_)
  refine WL.call rfl (by first | exact True.intro | exact rfl) gSL (flow_Bytes_ae (subF key n) data.length h2 _) ?_
  (refine go ?_)
  refine WL.call rfl (by first | exact True.intro | exact rfl) gSL (flow_Xor_ae data (flowF (subF key n) data.length) (flowF_len _ _) h2 _) ?_
  (refine go ?_)
  refine WL.call rfl (by first | exact True.intro | exact rfl) gSL (gcm_Tag_ae (subF key n) head (xorB data (flowF (subF key n) data.length)) h1 (by rw [xorB_len (flowF_len _ _)]; exact h2) _) ?_
  (refine go ?_)
  refine WW.ret (PureQ.finD ?_)
  exact fz_seal (gcmB key n data) (gcmT key n head (gcmB key n data))
theorem gcmO_T {key : Pr} {n : Nn} {head b : Bs} {tg : Pr} (h1 : head.length ≤ 4000) (h2 : b.length ≤ 4000) (ht : gcmT key n head b = tg) : gcmO key n head b tg = some (gcmB key n b) := by rw [gcmO, if_pos ⟨h1, h2, ht⟩]
theorem gcmO_F {key : Pr} {n : Nn} {head b : Bs} {tg : Pr} (ht : ¬ gcmT key n head b = tg) : gcmO key n head b tg = none := by rw [gcmO, if_neg fun hh => ht hh.2.2]
theorem gcm_Open_ae (key : Pr) (n : Nn) (head b : Bs) (tg : Pr) (h1 : head.length ≤ 4000) (h2 : b.length ≤ 4000) (h : AHeap) : AE Try.prog 105 [.agg (encP key), .agg (encN n), .imm 1 (head.map encB), .agg (encS b tg)] h (.tup [.imm 1 (((gcmO key n head b tg).getD []).map encB), .bool (gcmO key n head b tg).isSome]) h := by
  refine AE.pureW is_gcm_Open (by simp) ?_
  unfold c_gcm_Open
  (refine go ?_)
  refine WL.call rfl (by first | exact True.intro | exact rfl) gSL (flow_Sub_ae key n _) ?_
  (refine go ?_)
  refine DW.callS rfl (by first | exact True.intro | exact rfl) gSL rfl (gcm_may_ae head b h1 h2 _) ?_
  (refine go ?_)
  refine DW.callS rfl (by first | exact True.intro | exact rfl) gSL rfl (gcm_Tag_ae (subF key n) head b h1 h2 _) ?_
  (refine go ?_)
  refine WW.ifB rfl (fun hz => ?_) (fun hz => ?_)
  · (refine go ?_)
    refine WW.ret (PureQ.finD ?_)
    have hn : ¬ gcmT key n head b = tg := by
      intro e
      have h3 : (gcmT key n head b == tg) = false := by rw [← pr_beq]; exact hz
      simp [e] at h3
    rw [gcmO_F hn]
    exact Fz.tup2 (.nil _) (fz_b rfl)
  · (refine go ?_)
    refine DW.callS rfl (by first | exact True.intro | exact rfl) gSL rfl (flow_Bytes_ae (subF key n) b.length h2 _) ?_
    (refine go ?_)
    refine DW.callS rfl (by first | exact True.intro | exact rfl) gSL rfl (flow_Xor_ae b (flowF (subF key n) b.length) (flowF_len _ _) h2 _) ?_
    (refine go ?_)
    refine WW.ret (PureQ.finD ?_)
    have hy : gcmT key n head b = tg := by
      have h3 : (gcmT key n head b == tg) = true := by rw [← pr_beq]; exact hz
      simpa using h3
    rw [gcmO_T h1 h2 hy]
    exact Fz.tup2 (fz_immB rfl) (fz_b rfl)
end Go.Proofs.Ytjehfcjfnmcjcaa


namespace Go.Proofs.Ytjehfcjfnmcjcaa
open Go Go.Abs

attribute [local irreducible] encF
def sumS6 (s : Pr) (r : Bs) : Pr := stepF s (pairF r)
theorem digestF_S (p : Bs) : digestF p = (rowsF (padF p)).foldl sumS6 (7640891576956012808, 13503953896175478587) := rfl
attribute [local irreducible] stepF pairF
end Go.Proofs.Ytjehfcjfnmcjcaa


namespace Go.Abs
open Go

def FW : Option Nat → Fence
  | none => Fence.wide
  | some l => Fence.wide.inRound l
theorem FW.fn {ro : Option Nat} {f : FuncId} : (FW ro).fn f := by cases ro <;> trivial
theorem FW.depth {ro : Option Nat} {p : Prop} : (FW ro).depth.isSome = true → p := by cases ro <;> simp [FW, Fence.wide, Fence.inRound]
section
variable {P : Program} {N : Nat} {e : Env} {h : AHeap} {m : Inj} {w : World}
theorem calls_in {ro : Option Nat} {n : Nat} {f : FuncId} {args : Array Value} {R : Ending → World → Prop} (hc : Calls P f args w R) : CallsIn (FW ro) n P f args w R := by
  cases ro with
  | none => exact callsIn_wide.2 hc
  | some l => exact CallsIn.inRound l (callsIn_wide.2 hc)
theorem rows_in {ro : Option Nat} {n : Nat} {row : String} {args : Array Value} {R : Value → World → Prop} (hc : Rows P row args w R) : RowsIn (FW ro) n P row args w R := by
  intro c cs _
  obtain ⟨v, w', r, s⟩ := hc c cs
  refine ⟨v, w', r, ?_⟩
  cases ro with
  | none => exact stepsIn_wide.2 s
  | some l => exact stepsIn_wide.2 s
theorem compI_nodefer {ops : Array Oper} {o : Oper} {c : CI} (hc : compI P N ops o = c) (hb : c.i ≠ .bad) : ∀ d, o.op ≠ .defer d := by
  intro d hd
  apply hb
  have hr : rawI P N o = .bad := by
    unfold rawI
    have h1 : compileOp P N o = none := by simp [compileOp, hd]
    have h2 : compileX P N o = none := by simp [compileX, hd]
    simp [h1, h2]
  subst hc
  unfold compI
  split
  · split
    · simp [hr]
    · split
      · split
        · simp [hr]
        · rfl
      · rfl
  · rfl
/-- What a list of operations does, it does in a round, too. -/
theorem wpOps_in {ro : Option Nat} {n : Nat} {ops : Array Oper} {Q Q' : Exit → Go.Act → World → Prop} (hq : ∀ ex a w, Q ex a w → Q' ex a w) (hl : ¬ LetsOut Q) : ∀ (idx : List Nat), (∀ i ∈ idx, ∀ o, ops[i]? = some o → ∀ d, o.op ≠ .defer d) →
    ∀ (a : Go.Act) (w : World), wpOps P ops Q idx a w → wpOpsIn (FW ro) n P ops Q' idx a w
  | [], _, a, w, hw => hq _ _ _ hw
  | i :: idx, hd, a, w, hw => by
    have ih := wpOps_in (ro := ro) (n := n) hq hl idx fun j hj => hd j (by simp [hj])
    simp only [wpOps] at hw
    simp only [wpOpsIn]
    cases ho : ops[i]? with
    | none => simp only [ho] at hw; exact ih _ _ hw
    | some o =>
      simp only [ho] at hw ⊢
      by_cases hwant : Region.wanted o (yielded ops a.tmps) = true
      · rw [if_pos hwant] at hw ⊢
        rcases hw with hw | ⟨_, hx⟩
        · refine ⟨fun _ _ => FW.fn, ?_⟩
          rw [Oper.semAt_eq _ _ _ (hd i (by simp) o ho)]
          unfold Oper.wp at hw
          generalize (execOp a.eval o).run P w = r at hw ⊢
          cases r with
          | ok nx w' =>
            cases nx <;> simp only [Oper.upon, Oper.uponIn] at hw ⊢ <;> first
              | exact ih _ _ hw
              | exact ⟨FW.depth, calls_in (Calls.mono hw fun ex w'' he => by
                  cases ex with
                  | returned v => exact ih _ _ he
                  | panicked ch => exact hq _ _ _ he
                  | outgrown => exact absurd he hl)⟩
              | exact ⟨FW.depth, rows_in (Rows.mono hw fun _ _ he => ih _ _ he)⟩
          | halt x w' => cases x <;> simp only [Oper.upon, Oper.uponIn] at hw ⊢ <;> exact hq _ _ _ hw
        · exact absurd hx hl
      · rw [if_neg hwant] at hw ⊢
        exact ⟨fun _ _ => FW.fn, ih _ _ hw⟩

theorem loop_turn {id l N0 d : Nat} {st : LoopState} {es : List (Nat × AV)} {fn : FuncId} {ps : Array Tmp} {asg bdy : Code} (hr : HR m h w) (hg : h.get id = some (.loop l st N0 es fn ps asg bdy d)) (st' : LoopState) :
    ∃ T : Array Value, w.heap[l]? = some (.loop ⟨st, none, fn, T, ps, asg, bdy, d⟩) ∧ T.size = N0 ∧ (∀ (s : Nat) (v : AV), (s, v) ∈ es → VR m h w v (T.getD s undef)) ∧
      HR m (h.set id (some (.loop l st' N0 es fn ps asg bdy d))) (w.putObj l (.loop ⟨st', none, fn, T, ps, asg, bdy, d⟩)) ∧ Step m h w m (h.set id (some (.loop l st' N0 es fn ps asg bdy d))) (w.putObj l (.loop ⟨st', none, fn, T, ps, asg, bdy, d⟩)) := by
  obtain ⟨q1, T, q2, q3, q4⟩ := hr.obj _ _ hg
  have hlt : l < w.heap.size := (Array.getElem?_eq_some_iff.1 q2).1
  have wu : WUpd w (w.putObj l (.loop ⟨st', none, fn, T, ps, asg, bdy, d⟩)) l := ⟨rfl, rfl, rfl, World.putObj_size, fun k hk => World.putObj_heap_other hk, fun cc T' fz hc => by rw [q2] at hc; cases hc⟩
  have hcm : Compat (.loop l st N0 es fn ps asg bdy d) (.loop l st' N0 es fn ps asg bdy d) := ⟨rfl, rfl, rfl, rfl, rfl, rfl, rfl, rfl⟩
  have stp := step_set hr hg q1 hcm wu
  exact ⟨T, q2, q3, q4, hr.set hg q1 hcm wu ⟨q1, T, World.putObj_heap_same hlt, q3, fun s v hi => (q4 s v hi).step stp⟩, stp⟩

/-- Code in a round of record l. -/
def RW (P : Program) (l N : Nat) (c : CC) (Q : Exit → Env → AHeap → Prop) (e : Env) (h : AHeap) : Prop :=
  ∀ code, compC P N code = c → ∀ (n : Nat) (m : Inj) (w : World) (a : Go.Act), HR m h w → ER N m h w e a → code.wpIn (FW (some l)) n P (PA N Q m h w) a w
def Ins.isBad : Ins → Bool
  | .bad => true
  | _ => false
theorem noOut {K : Env → AHeap → Prop} : ¬ LetsOut (PA N (fun ex e h => ex = .normal ∧ K e h) m h w) := by
  rintro ⟨a, w0, m', e', h', _, _, _, hq, _⟩
  cases hq
theorem nodefers {ops : Array Oper} {l : List CI} (hl : compR P N ops = l) (hb : l.all (fun c => !c.i.isBad) = true) : ∀ i ∈ List.range ops.size, ∀ o, ops[i]? = some o → ∀ d, o.op ≠ .defer d := by
  intro i _ o ho
  refine compI_nodefer (P := P) (N := N) (ops := ops) rfl fun hbad => ?_
  have hm : compI P N ops o ∈ l := by
    rw [← hl, compR]
    refine List.mem_map.2 ⟨o, ?_, rfl⟩
    exact Array.mem_toList_iff.2 (Array.mem_of_getElem? ho)
  have := List.all_eq_true.1 hb _ hm
  rw [hbad] at this
  cases this
theorem compR_range {ops : Array Oper} : (List.range ops.size).map (fun i => compI P N ops (ops.getD i default)) = compR P N ops := by
  simp only [compR]
  apply List.ext_getElem
  · simp
  · intro i h1 h2
    simp at h1 h2
    simp [h1]
theorem RW.reg {lr : Nat} {l : List CI} {K : Env → AHeap → Prop} (hb : l.all (fun c => !c.i.isBad) = true) (hw : WL P N l (fun ex e h => ex = .normal ∧ K e h) e h) : RW P lr N (.reg l) (fun ex e h => ex = .normal ∧ K e h) e h := by
  intro code hc n m w a hr he
  cases code <;> simp only [compC] at hc <;> try (cases hc; done)
  · rename_i id ops d
    split at hc
    · cases hc
    · rename_i hd
      injection hc with hc
      have hd' : d = false := by simpa using hd
      subst hd'
      exact wpIn_region (wpOps_in (fun _ _ _ h => h) noOut _ (nodefers hc hb) a w (hw.out ops (List.range ops.size) (fun i hi => by simpa using hi) (compR_range.trans hc) m w a hr he))
  · split at hc <;> cases hc
  · split at hc <;> cases hc
theorem RW.seq {lr : Nat} {x y : CC} {Q : Exit → Env → AHeap → Prop} (hw : RW P lr N x (fun ex e h => ex = .normal ∧ RW P lr N y Q e h) e h) : RW P lr N (.seq x y) Q e h := by
  intro code hc n m w a hr he
  cases code <;> simp only [compC] at hc <;> try (cases hc; done)
  · split at hc <;> cases hc
  · rename_i cx cy
    cases hc
    refine wpIn_seq (wpIn_mono (hw cx rfl n m w a hr he) fun ex a' w' hp => ?_)
    obtain ⟨m', e', h', h1, h2, h3, rfl, h4⟩ := hp
    exact wpIn_mono (h4 cy rfl n m' w' a' h1 h2) fun _ _ _ hp => PA.from h3 hp
  · split at hc <;> cases hc
  · split at hc <;> cases hc
theorem RW.block {lr id : Nat} {x : CC} {Q : Exit → Env → AHeap → Prop} (hw : RW P lr N x (fun ex e h => ex = .normal ∧ Q .normal e h) e h) : RW P lr N (.block id x) Q e h := by
  intro code hc n m w a hr he
  cases code <;> simp only [compC] at hc <;> try (cases hc; done)
  · split at hc <;> cases hc
  · split at hc <;> cases hc
  · cases hc
    refine wpIn_block (wpIn_mono (hw _ rfl n m w a hr he) fun ex a' w' hp => ?_)
    obtain ⟨m', e', h', h1, h2, h3, rfl, h4⟩ := hp
    exact ⟨m', e', h', h1, h2, h3, h4⟩
  · split at hc <;> cases hc
end
end Go.Abs


namespace Go.Abs
open Go

def mk (r : Nat) : Deferred := { target := .collected r, args := #[] }
/-- How code ends behind a range over a function: a mark among the deferred calls. -/
def PMd (N : Nat) (Q : Exit → Env → AHeap → Prop) (did r : Nat) (m : Inj) (h : AHeap) (w : World) : Exit → Go.Act → World → Prop :=
  fun ex a' w' => ∃ (m' : Inj) (e' : Env) (h' : AHeap), HR m' h' w' ∧ ER N m' h' w' e' { a' with defers := [] } ∧ a'.defers = [mk r] ∧ Step m h w m' h' w' ∧ h'.get did = some (.dfr r (some [])) ∧ Q ex e' h'
/-- How code ends in which a range over a function stood: the block of deferred calls is new. -/
def PMk (N : Nat) (Q : Nat → Exit → Env → AHeap → Prop) (m : Inj) (h : AHeap) (w : World) : Exit → Go.Act → World → Prop :=
  fun ex a' w' => ∃ (r did : Nat), ¬ h.used did ∧ PMd N (Q did) did r m h w ex a' w'
/-- Code in which such a range stands. -/
def AMk (P : Program) (N : Nat) (c : CC) (Q : Nat → Exit → Env → AHeap → Prop) (e : Env) (h : AHeap) : Prop :=
  ∀ code, compC P N code = c → ∀ m w a, HR m h w → ER N m h w e a → code.wp P (PMk N Q m h w) a w
/-- Code behind it. -/
def AMM (P : Program) (N : Nat) (c : CC) (Q : Exit → Env → AHeap → Prop) (did r : Nat) (e : Env) (h : AHeap) : Prop :=
  ∀ code, compC P N code = c → ∀ m w a, HR m h w → ER N m h w e { a with defers := [] } → a.defers = [mk r] → code.wp P (PMd N Q did r m h w) a w
section
variable {P : Program} {N : Nat} {e : Env} {h : AHeap} {m : Inj} {w : World} {Q : Nat → Exit → Env → AHeap → Prop} {K : Exit → Env → AHeap → Prop}
theorem PMd.from {m₁ : Inj} {h₁ : AHeap} {w₁ : World} {did r : Nat} (s : Step m h w m₁ h₁ w₁) {ex : Exit} {a : Go.Act} {w' : World} (hp : PMd N K did r m₁ h₁ w₁ ex a w') : PMd N K did r m h w ex a w' := by
  obtain ⟨m', e', h', h1, h2, h3, h4, h5, h6⟩ := hp
  exact ⟨m', e', h', h1, h2, h3, s.trans h4, h5, h6⟩
theorem AMk.block {id : Nat} {x : CC} (hw : AMk P N x (fun did ex e h => ex = .normal ∧ Q did .normal e h) e h) : AMk P N (.block id x) Q e h := by
  intro code hc m w a hr he
  cases code <;> simp only [compC] at hc <;> try (cases hc; done)
  · split at hc <;> cases hc
  · split at hc <;> cases hc
  · cases hc
    refine wp_block (wp_mono (hw _ rfl m w a hr he) fun ex a' w' hp => ?_)
    obtain ⟨r, did, hu, m', e', h', h1, h2, h3, h4, h5, rfl, h6⟩ := hp
    exact ⟨r, did, hu, m', e', h', h1, h2, h3, h4, h5, h6⟩
  · split at hc <;> cases hc
theorem AMM.seq {x y : CC} {did r : Nat} (hw : AMM P N x (fun ex e h => ex = .normal ∧ (h.get did = some (.dfr r (some [])) → AMM P N y K did r e h)) did r e h) : AMM P N (.seq x y) K did r e h := by
  intro code hc m w a hr he hd
  cases code <;> simp only [compC] at hc <;> try (cases hc; done)
  · split at hc <;> cases hc
  · rename_i cx cy
    cases hc
    refine wp_seq (wp_mono (hw cx rfl m w a hr he hd) fun ex a' w' hp => ?_)
    obtain ⟨m', e', h', h1, h2, h3, h4, h5, rfl, h6⟩ := hp
    exact wp_mono (h6 h5 cy rfl m' w' a' h1 h2 h3) fun _ _ _ hp => hp.from h4
  · split at hc <;> cases hc
  · split at hc <;> cases hc
theorem AMM.ret {did r : Nat} (hg : h.get did = some (.dfr r (some []))) (hq : K .ret e h) : AMM P N .ret K did r e h := by
  intro code hc m w a hr he hd
  cases code <;> simp only [compC] at hc <;> try (cases hc; done)
  · split at hc <;> cases hc
  · split at hc <;> cases hc
  · split at hc <;> cases hc
  · exact wp_ret ⟨m, e, h, hr, he, hd, Step.refl _ _ _, hg, hq⟩
/-- Operations do not look at the deferred calls. -/
theorem wpOps_dfr {ops : Array Oper} {K : Exit → Go.Act → World → Prop} (hl : ¬ LetsOut K) (ds : List Deferred) : ∀ (idx : List Nat) (a : Go.Act) (w : World), wpOps P ops K idx a w →
    wpOps P ops (fun ex a' w' => ∃ a0, a' = { a0 with defers := a0.defers ++ ds } ∧ K ex a0 w') idx { a with defers := a.defers ++ ds } w
  | [], a, w, hw => ⟨a, rfl, hw⟩
  | i :: idx, a, w, hw => by
    have ih := wpOps_dfr (ops := ops) (K := K) hl ds idx
    have ihp : ∀ (a : Go.Act) (d : Option Tmp) (v : Value) (w : World), wpOps P ops K idx (a.put d v) w → wpOps P ops (fun ex a' w' => ∃ a0, a' = { a0 with defers := a0.defers ++ ds } ∧ K ex a0 w') idx (({ a with defers := a.defers ++ ds } : Go.Act).put d v) w := fun a d v w hx => by
      have := ih _ _ hx
      cases d <;> exact this
    have hev : ({ a with defers := a.defers ++ ds } : Go.Act).eval = a.eval := funext fun x => by cases x <;> rfl
    simp only [wpOps] at hw ⊢
    cases ho : ops[i]? with
    | none => simp only [ho] at hw; exact ih _ _ hw
    | some o =>
      simp only [ho] at hw ⊢
      by_cases hwant : Region.wanted o (yielded ops a.tmps) = true
      · rw [if_pos hwant] at hw ⊢
        rcases hw with hw | ⟨_, hx⟩
        · left
          unfold Oper.wp at hw ⊢
          rw [hev]
          generalize (execOp a.eval o).run P w = r at hw ⊢
          cases r with
          | ok nx w' =>
            cases nx <;> simp only [Oper.upon] at hw ⊢ <;> first
              | exact ihp _ _ _ _ hw
              | exact ihp { a with defers := _ :: a.defers } _ _ _ hw
              | exact Calls.mono hw fun ex w'' he => by
                  cases ex with
                  | returned v => exact ihp _ _ _ _ he
                  | panicked ch => exact ⟨a, rfl, he⟩
                  | outgrown => exact absurd he hl
              | exact Rows.mono hw fun _ _ he => ihp _ _ _ _ he
              | exact hw
          | halt x w' => cases x <;> simp only [Oper.upon] at hw ⊢ <;> first | exact ⟨a, rfl, hw⟩ | exact hw
        · exact absurd hx hl
      · rw [if_neg hwant] at hw ⊢
        exact ihp _ _ _ _ hw
theorem AMM.reg {l : List CI} {did r : Nat} (hw : WL P N l (fun ex e h' => ex = .normal ∧ (h'.get did = some (.dfr r (some [])) ∧ K .normal e h')) e h) : AMM P N (.reg l) K did r e h := by
  intro code hc m w a hr he hd
  cases code <;> simp only [compC] at hc <;> try (cases hc; done)
  · rename_i id ops dr
    split at hc
    · cases hc
    · rename_i hdr
      injection hc with hc
      have hd' : dr = false := by simpa using hdr
      subst hd'
      have hx := wpOps_dfr noOut [mk r] _ _ _ (hw.out ops (List.range ops.size) (fun i hi => by simpa using hi) (compR_range.trans hc) m w { a with defers := [] } hr he)
      have ha : ({ ({ a with defers := [] } : Go.Act) with defers := ({ a with defers := [] } : Go.Act).defers ++ [mk r] } : Go.Act) = a := by
        cases a; simp only at hd; subst hd; rfl
      rw [ha] at hx
      refine wp_region (wpOps_mono (fun ex a1 w1 hp => ?_) _ _ _ hx)
      obtain ⟨a0, rfl, m1, e1, h1, hr1, he1, st1, rfl, hg1, hq⟩ := hp
      refine ⟨m1, e1, h1, hr1, ⟨he1.size, rfl, he1.val⟩, ?_, st1, hg1, hq⟩
      show a0.defers ++ [mk r] = [mk r]
      rw [he1.defers]; rfl
  · split at hc <;> cases hc
  · split at hc <;> cases hc
/-- The statement. -/
theorem AMk.rangeF {f p : Nat} {g : Opd} {us ts : List AV} {cA cB : CC} {es : List (Nat × AV)} (hg : ev e g = some (.func (.func f) us ts)) (hbd : bodied P f = true) (hes : ∀ s v, (s, v) ∈ es → lk s e = some v)
    (hac : ∀ (l r : Nat) (fn : FuncId) (asg bdy : Code), compC P N asg = cA → compC P N bdy = cB → AC P f (us ++ [.func (.yield l) [] []] ++ ts) ((h.put h.next (.dfr r (some []))).put (h.next + 1) (.loop l .ready N es fn #[p] asg bdy r))
      (fun _ h' => h'.get h.next = some (.dfr r (some [])) ∧ h'.get (h.next + 1) = some (.loop l .ready N es fn #[p] asg bdy r) ∧ Q h.next .normal e (h'.set (h.next + 1) none))) : AMk P N (.rangeF g [p] cA cB) Q e h := by
  intro code hc m w a hr he
  cases code <;> simp only [compC] at hc <;> try (cases hc; done)
  · split at hc <;> cases hc
  · split at hc <;> cases hc
  · rename_i gq ps asg bdy
    split at hc
    · rename_i g' hgq
      injection hc with e1 e2 e3 e4
      subst e1 e3 e4
      have hps : ps = #[p] := by rw [← Array.toArray_toList (xs := ps), e2]
      subst hps
      refine (wpIn_wide (n := 0)).1 (wpIn_rangeFunc fun fn _ => ?_)
      have hfv := he.eval hgq hg
      have hf1 := next_fresh hr
      have hr1 : HR (upd m h.next (some (w.heap.size, 0))) (h.put h.next (.dfr w.heap.size (some []))) (w.alloc (.deferred (some []))) := hr.put hf1 ⟨by simp [upd], World.alloc_heap_new _ _⟩
      have st1 := step_put hr hf1 (.dfr w.heap.size (some [])) (.deferred (some [])) 0
      have hn1 : (h.put h.next (.dfr w.heap.size (some []))).next = h.next + 1 := next_put _ _
      have hf2 : ¬ (h.put h.next (.dfr w.heap.size (some []))).used (h.next + 1) := fun hu => by have := hu.1; omega
      have hsz1 : (w.alloc (.deferred (some []))).heap.size = w.heap.size + 1 := World.size_alloc ..
      have st2 := step_put hr1 hf2 (.loop (w.heap.size + 1) .ready N es fn #[p] asg bdy w.heap.size) (.loop ⟨.ready, none, fn, a.tmps, #[p], asg, bdy, w.heap.size⟩) 0
      have hr2 := hr1.put (t := 0) (x := .loop (w.heap.size + 1) .ready N es fn #[p] asg bdy w.heap.size) (o := .loop ⟨.ready, none, fn, a.tmps, #[p], asg, bdy, w.heap.size⟩) hf2
        ⟨by simp [upd], a.tmps, by rw [← hsz1]; exact World.alloc_heap_new _ _, he.size, fun s v hs => (he.val s v (hes s v hs)).step (st1.trans st2)⟩
      have he2 := he.step (st1.trans st2)
      generalize hcx : a.eval gq = cx at hfv
      cases hfv with
      | func _ _ _ cs ds q1 q2 q3 q4 =>
        have hfv2 : VR _ _ _ (.func (.func f) us ts) (.func (.func f) cs ds) := (VR.func (.func f) us ts cs ds q1 q2 q3 q4).step (st1.trans st2)
        obtain ⟨W, hW⟩ : ∃ W, (w.alloc (.deferred (some []))).alloc (.loop ⟨.ready, none, fn, a.tmps, #[p], asg, bdy, w.heap.size⟩) = W := ⟨_, rfl⟩
        obtain ⟨d, hd1, hd2⟩ : ∃ d : Deferred, (resolve a.eval (rangeCall gq (w.heap.size + 1)) 0).run P W = .ok d W ∧ (invoke d.target d.args).run P W = .ok (.enter f (cs ++ #[.func (.yield (w.heap.size + 1)) #[] #[]] ++ ds)) W := by
          have hce : a.eval (.const (.func (.yield (w.heap.size + 1)) #[] #[])) = .func (.yield (w.heap.size + 1)) #[] #[] := rfl
          refine ⟨{ target := .fn (.func f) ds, args := cs ++ #[.func (.yield (w.heap.size + 1)) #[] #[]] }, ?_, ?_⟩
          · simp [resolve, rangeCall, hcx, hce, Deferred.ofValue]
          · simp [invoke, run_callFunc hbd]
        refine ⟨w.heap.size + 1, [mk w.heap.size], W, d, W, f, cs ++ #[.func (.yield (w.heap.size + 1)) #[] #[]] ++ ds, W, ?_, hd1, fun _ _ => trivial, hd2, fun hh => by simp [Fence.wide] at hh, ?_⟩
        · rw [← hW]; exact run_enterLoop_outer fn a.tmps #[p] asg bdy
        · refine callsIn_wide.2 ?_
          subst hW
          refine (hac (w.heap.size + 1) w.heap.size fn asg bdy rfl rfl _ _ _ hr2 (by simp [q1, q2]; omega) (fun j v hj => ?_)).mono fun ex w3 hx => ?_
          · have q3' := fun i v hi => (q3 i v hi).step (st1.trans st2)
            have q4' := fun i v hi => (q4 i v hi).step (st1.trans st2)
            rw [List.append_assoc] at hj
            simp only [Array.getD_eq_getD_getElem?]
            by_cases j1 : j < us.length
            · rw [List.getElem?_append_left j1] at hj
              have := q3' j v hj
              rw [Array.append_assoc, Array.getElem?_append_left (by omega)]
              simpa [Array.getD_eq_getD_getElem?] using this
            · rw [List.getElem?_append_right (by omega)] at hj
              rw [Array.append_assoc, Array.getElem?_append_right (by omega), ← q1]
              by_cases j2 : j - us.length < 1
              · rw [List.getElem?_append_left (by simpa using j2)] at hj
                have h0 : j - us.length = 0 := by omega
                rw [h0] at hj ⊢
                cases hj
                rw [Array.getElem?_append_left (by simp)]
                exact .func _ [] [] #[] #[] rfl rfl (by simp) (by simp)
              · rw [List.getElem?_append_right (by simp; omega)] at hj
                have := q4' _ v hj
                rw [Array.getElem?_append_right (by simp; omega)]
                simpa [Array.getD_eq_getD_getElem?] using this
          · obtain ⟨v, m3, r3, h3, rfl, hr3, _, st3, hg3, hl3, hq3⟩ := hx
            obtain ⟨T3, hT3, _, _, hr4, st4⟩ := loop_turn hr3 hl3 .exhausted
            have hr5 := hr4.del (h.next + 1)
            have st5 : Step _ _ _ _ _ _ := step_del (m := m3) (h := h3.set (h.next + 1) (some (.loop (w.heap.size + 1) .exhausted N es fn #[p] asg bdy w.heap.size))) (w := w3.putObj (w.heap.size + 1) (.loop ⟨.exhausted, none, fn, T3, #[p], asg, bdy, w.heap.size⟩)) (h.next + 1)
            refine ⟨none, _, run_endLoop hT3 (by simp), ?_⟩
            rw [set_set] at hr5 st5
            have stA := (((st1.trans st2).trans st3).trans st4).trans st5
            refine ⟨w.heap.size, h.next, fun hu => absurd hu.1 (Nat.lt_irrefl _), m3, e, _, hr5, ?_, ?_, stA, ?_, hq3⟩
            · have := he.step stA
              exact ⟨this.size, rfl, this.val⟩
            · show [mk w.heap.size] ++ a.defers = _
              rw [he.defers]; rfl
            · rw [get_set, if_neg (by omega)]; exact hg3
    · cases hc

end
end Go.Abs


namespace Go.Proofs.Ytjehfcjfnmcjcaa
open Go Go.Abs

attribute [local irreducible] stepF pairF
theorem AC.used {P : Program} {f : Nat} {vs : List AV} {h : AHeap} {R : AV → AHeap → Prop} (hac : AC P f vs h R) : AC P f vs h (fun r h' => R r h' ∧ (∀ id, h.used id → h'.used id) ∧ ∀ id x, h'.get id = some x → h'.used id) := fun m w cargs hr hl hv =>
  (hac m w cargs hr hl hv).mono fun ex w' ⟨v, m', r, h', e1, g1, g2, g3, hR⟩ => ⟨v, m', r, h', e1, g1, g2, g3, hR, g3.used, g1.live⟩
theorem AMk.named {P : Program} {N : Nat} {c : CC} {Q : Nat → Exit → Env → AHeap → Prop} {e : Env} {h : AHeap} (F : AHeap → Prop) (hf : F h) (k : ∀ h5, F h5 → AMk P N c Q e h5) : AMk P N c Q e h := k h hf
end Go.Proofs.Ytjehfcjfnmcjcaa


namespace Go.Abs
open Go

section
variable {P : Program} {N : Nat} {e : Env} {h : AHeap} {l : List CI} {es : List (List Nat)}

/-- An operation, by what holds behind it. -/
def FXR (P : Program) (N : Nat) (c : CI) (e : Env) (h : AHeap) (R : Option AV → AHeap → Prop) : Prop :=
  ∀ (ops : Array Oper) (i : Nat) (o : Oper), ops[i]? = some o → compI P N ops o = c → ∀ (m : Inj) (w : World) (a : Act) (K : Act → World → Prop) (Q : Exit → Act → World → Prop),
    HR m h w → ER N m h w e a → (∀ m' w' a' r h', R r h' → HR m' h' w' → ER N m' h' w' (putR c.d r e) a' → Step m h w m' h' w' → K a' w') → wpOp P ops Q i K a w
theorem FXR.of {c : CI} {r : Option AV} {h' : AHeap} {R : Option AV → AHeap → Prop} (hx : FX P N c e h r h') (hR : R r h') : FXR P N c e h R :=
  fun ops i o ho hc m w a K Q hr he hk => hx ops i o ho hc e (fun _ _ => rfl) m w a K Q hr he fun m' w' a' h1 h2 h3 => hk m' w' a' r h' hR h1 h2 h3
theorem FXR.call {d : Option Nat} {f : Nat} {xs : List Opd} {g : Option (Nat × Bool)} {us vs : List AV} {R' : AV → AHeap → Prop} {R : Option AV → AHeap → Prop} (hv : evL e xs = some us) (hg : met e g) (hs : SubL us vs) (hac : AC P f vs h R') (hR : ∀ r h', R' r h' → R (some r) h') : FXR P N ⟨d, .call f xs, g⟩ e h R := by
  intro ops i o ho hc m w a K Q hr he hk
  rcases compI_ok hc with ⟨hb1, hb2⟩ | ⟨hd, hdst, hcomp, hgd⟩
  · simp at hb1
  · obtain ⟨w1, w2⟩ := wanted_of he hgd
    have hw : Region.wanted o (yielded ops a.tmps) = true := by
      cases g with
      | none => exact w1 rfl
      | some sb =>
        obtain ⟨s, b⟩ := sb
        rw [w2 s b b rfl hg]; simp
    simp only [wpOp, ho]
    rw [if_pos hw]
    left
    have hco := hcomp rfl
    obtain ⟨c, hop, hcal, hfn, hxs⟩ := compile_call hco
    obtain ⟨hl1, hl2⟩ := he.evalL hxs hv
    have hrun : (execOp a.eval o).run P w = .ok (.enter f (c.args.map a.eval)) w := by
      simp [execOp, hop, resolve, hcal, Act.eval, Deferred.ofValue, invoke, run_callFunc hfn]
    refine call_wp hrun hr (by simpa using hl1) (fun j v hj => by
      have := hl2 j v hj
      simpa [Array.getD_eq_getD_getElem?, List.getD_eq_getElem?_getD] using this) (hac.sub hs) fun v w' m' r1 h1 g1 g2 g3 g4 => ?_
    refine hk m' w' _ (some r1) h1 (hR r1 h1 g4) g1 ?_ g3
    have hd' : d = o.dst := hd
    show ER N m' h1 w' (putR d (some r1) e) _
    rw [hd']
    exact (he.step g3).putR hdst g2
theorem FXR.stp {c : CI} {e' : Env} {h' : AHeap} {R : Option AV → AHeap → Prop} (hs : Stp c e h e' h') (hR : ∀ r, e' = putR c.d r e → R r h') : FXR P N c e h R := by
  obtain ⟨r, he, hx, _⟩ := FX.of_stp (P := P) (N := N) hs
  exact FXR.of hx (hR r he)
theorem AC.spareC {f : Nat} {vs : List AV} {R : AV → AHeap → Prop} (hac : AC P f vs h R) : AC P f vs h (fun r' h' => ∃ h1, R r' h1 ∧ h' = (h1.put h1.next (.tail 0 0)).set h1.next none) := fun m w cargs hr hl hv =>
  (hac m w cargs hr hl hv).mono fun ex w' ⟨v, m', r', h', e1, g1, g2, g3, hR⟩ => by
    have f1 := next_fresh g1
    have s1 := step_putv g1 f1
    have q1 := g1.putv f1
    have s2 := step_del (m := upd m' h'.next none) (h := h'.put h'.next (.tail 0 0)) (w := w') h'.next
    exact ⟨v, _, _, _, e1, q1.del _, (g2.step s1).step s2, (g3.trans s1).trans s2, _, hR, rfl⟩
/-- A name that is taken, and at which nothing stands. -/
theorem AE.spareC {f nx : Nat} {vs : List AV} {h1 : AHeap} {r : AV} (hac : AE P f vs h r h1) (hn : h1.next = nx) : AC P f vs h (fun r' h' => r' = r ∧ h' = (h1.put nx (.tail 0 0)).set nx none) := fun m w cargs hr hl hv =>
  (hac m w cargs hr hl hv).mono fun ex w' ⟨v, m', r', h', e1, g1, g2, g3, hR, hH⟩ => by
    subst hR hH hn
    have f1 := next_fresh g1
    have s1 := step_putv g1 f1
    have q1 := g1.putv f1
    have s2 := step_del (m := upd m' h'.next none) (h := h'.put h'.next (.tail 0 0)) (w := w') h'.next
    exact ⟨v, _, _, _, e1, q1.del _, (g2.step s1).step s2, (g3.trans s1).trans s2, rfl, rfl⟩
end
end Go.Abs


namespace Go.Proofs.Ytjehfcjfnmcjcaa
open Go Go.Abs

/-- A write of a device. -/
abbrev Wr := Int × Bs
abbrev encO (x : Wr) : List AV := [.int .i64 x.1, .imm 1 (x.2.map encB)]
/-- Power: is it gone? has it a fuse, of how many steps? how many there were. -/
structure PwS where
  gone : Bool
  fuse : Bool
  left : Int
  steps : Int
def PwS.row (p : PwS) : List AV := [.bool p.gone, .bool p.fuse, .int .i64 p.left, .int .i64 p.steps]
def PwS.can (p : PwS) : Bool := !p.gone && !(p.fuse && p.left == 0)
def PwS.spend (p : PwS) : PwS := if p.gone then p else if p.fuse && p.left == 0 then { p with gone := true } else { p with left := if p.fuse then p.left - 1 else p.left, steps := p.steps + 1 }
/-- What may be: k steps at most. -/
structure PwS.Ok (p : PwS) (k : Nat) : Prop where
  l0 : p.fuse = true → 0 ≤ p.left
  l1 : -9223372036854775808 ≤ p.left ∧ p.left ≤ 9223372036854775807
  s0 : 0 ≤ p.steps
  s1 : p.steps ≤ k
theorem PwS.Ok.spend {p : PwS} {k : Nat} (h : p.Ok k) : p.spend.Ok (k + 1) := by
  obtain ⟨h1, h2, h3, h4⟩ := h
  unfold PwS.spend
  split
  · exact ⟨h1, h2, h3, by omega⟩
  · split
    · exact ⟨h1, h2, h3, by show p.steps ≤ _; omega⟩
    · rename_i hf
      refine ⟨fun e => ?_, ?_, by show 0 ≤ p.steps + 1; omega, by show p.steps + 1 ≤ _; omega⟩
      · have e' : p.fuse = true := e
        have := h1 e'
        simp only [e', Bool.true_and, beq_iff_eq] at hf
        show 0 ≤ (if p.fuse then p.left - 1 else p.left)
        rw [if_pos e']; omega
      · show -9223372036854775808 ≤ (if p.fuse then p.left - 1 else p.left) ∧ (if p.fuse then p.left - 1 else p.left) ≤ 9223372036854775807
        by_cases e : p.fuse = true
        · have := h1 e; rw [if_pos e]; omega
        · rw [if_neg e]; omega
/-- A device nobody trusts: what lasts, what waits, all that was done. -/
structure SdS where
  lasts : Bs
  waits : List Wr
  trace : List Wr
  gen : Nat
/-- Bytes laid over others. -/
def layO (b : Bs) (x : Wr) : Bs := b.take x.1.toNat ++ x.2.take (min x.2.length (b.length - x.1.toNat)) ++ b.drop (x.1.toNat + min x.2.length (b.length - x.1.toNat))
theorem layO_len (b : Bs) (x : Wr) (h : x.1.toNat ≤ b.length) : (layO b x).length = b.length := by
  simp only [layO, List.length_append, List.length_take, List.length_drop]; omega
def SdS.snap (s : SdS) : Bs := s.waits.foldl layO s.lasts
/-- Is it within? -/
def inB (n : Nat) (off k : Int) : Bool := decide (0 ≤ off) && decide (0 ≤ k) && decide (off ≤ n) && decide (k ≤ n - off)
structure SdS.Ok (s : SdS) (n k : Nat) : Prop where
  len : s.lasts.length = n
  w : ∀ x ∈ s.waits, 0 ≤ x.1 ∧ x.1 + x.2.length ≤ n
  kw : s.waits.length ≤ k
  kt : s.trace.length ≤ k
/-- The slow disk. -/
structure DkS where
  lasts : List Bs
  waits : List Wr
  trace : List Wr
  refuses : Bool
  gen : Nat
structure CtS where
  value : Int
  boots : Int
  at' : Int
def CtS.row (c : CtS) : List AV := [.int .u64 c.value, .int .u64 c.boots, .int .u64 c.at']
structure KsS where
  seed : Int
  epochs : List Int
def encE (e : Int) : List AV := [.int .u32 e]
end Go.Proofs.Ytjehfcjfnmcjcaa


set_option maxRecDepth 100000
namespace Go.Proofs.Ytjehfcjfnmcjcaa
open Go Go.Abs

def c_power_New : CC := .seq (.reg [⟨some 0, .mov (.c .nilp), none⟩]) (.seq (.reg [⟨some 1, .build [.bool false, .bool false, .int .i64 0, .int .i64 0] [], none⟩, ⟨some 2, .box 4 (.t 1), none⟩, ⟨some 0, .mov (.t 2), none⟩]) .ret)
theorem is_power_New : FnIs Try.prog 65 3 c_power_New [.t 0] := ⟨Try.f65, _, Try.func65, rfl, rfl, by kernel_rfl, by kernel_rfl⟩

def c_power_Power_Spend : CC := .seq (.reg [⟨some 2, .mov (.c (.bool false)), none⟩]) (.seq (.seq (.reg [⟨some 3, .mov (.t 0), none⟩, ⟨some 4, .call 31 [.t 3], none⟩, ⟨some 5, .not (.t 4), none⟩]) (.cond (.t 5) (.seq (.reg [⟨some 2, .mov (.c (.bool false)), none⟩]) .ret) .skip)) (.seq (.seq (.reg [⟨some 6, .mov (.t 0), none⟩, ⟨some 7, .nilck (.t 6), none⟩, ⟨some 8, .faddr 1 (.t 7), none⟩, ⟨some 9, .load 1 false (.t 8), none⟩, ⟨some 10, .mov (.t 9), none⟩, ⟨some 11, .mov (.t 0), some (10, true)⟩, ⟨some 12, .nilck (.t 11), some (10, true)⟩, ⟨some 13, .faddr 2 (.t 12), some (10, true)⟩, ⟨some 14, .load 1 false (.t 13), some (10, true)⟩, ⟨some 15, .bin .eql (.t 14) (.c (.int .i64 0)), some (10, true)⟩, ⟨some 16, .pick (.t 10) (.t 15) (.c (.bool false)), none⟩]) (.cond (.t 16) (.seq (.reg [⟨some 17, .mov (.t 0), none⟩, ⟨some 18, .nilck (.t 17), none⟩, ⟨some 19, .faddr 0 (.t 18), none⟩, ⟨none, .store 1 (.t 19) (.c (.bool true)), none⟩]) (.seq (.reg [⟨some 2, .mov (.c (.bool false)), none⟩]) .ret)) .skip)) (.seq (.seq (.reg [⟨some 20, .mov (.t 0), none⟩, ⟨some 21, .nilck (.t 20), none⟩, ⟨some 22, .faddr 1 (.t 21), none⟩, ⟨some 23, .load 1 false (.t 22), none⟩]) (.cond (.t 23) (.reg [⟨some 24, .mov (.t 0), none⟩, ⟨some 25, .nilck (.t 24), none⟩, ⟨some 26, .faddr 2 (.t 25), none⟩, ⟨some 27, .load 1 false (.t 26), none⟩, ⟨some 28, .bin .sub (.t 27) (.c (.int .i64 1)), none⟩, ⟨some 29, .nilck (.t 24), none⟩, ⟨some 30, .faddr 2 (.t 29), none⟩, ⟨none, .store 1 (.t 30) (.t 28), none⟩]) .skip)) (.seq (.reg [⟨some 31, .mov (.t 0), none⟩, ⟨some 32, .nilck (.t 31), none⟩, ⟨some 33, .faddr 3 (.t 32), none⟩, ⟨some 34, .load 1 false (.t 33), none⟩, ⟨some 35, .bin .add (.t 34) (.c (.int .i64 1)), none⟩, ⟨some 36, .nilck (.t 31), none⟩, ⟨some 37, .faddr 3 (.t 36), none⟩, ⟨none, .store 1 (.t 37) (.t 35), none⟩]) (.seq (.reg [⟨some 2, .mov (.c (.bool true)), none⟩]) .ret)))))
theorem is_power_Power_Spend : FnIs Try.prog 37 38 c_power_Power_Spend [.t 2] := ⟨Try.f37, _, Try.func37, rfl, rfl, by kernel_rfl, by kernel_rfl⟩

def c_power_Power_On : CC := .seq (.reg [⟨some 2, .mov (.c (.bool false)), none⟩]) (.seq (.reg [⟨some 3, .mov (.t 0), none⟩, ⟨some 4, .eqv .p true (.t 3) (.c .nilp), none⟩, ⟨some 5, .mov (.t 4), none⟩, ⟨some 6, .mov (.t 0), some (5, true)⟩, ⟨some 7, .nilck (.t 6), some (5, true)⟩, ⟨some 8, .faddr 0 (.t 7), some (5, true)⟩, ⟨some 9, .load 1 false (.t 8), some (5, true)⟩, ⟨some 10, .not (.t 9), some (5, true)⟩, ⟨some 11, .pick (.t 5) (.t 10) (.c (.bool false)), none⟩, ⟨some 2, .mov (.t 11), none⟩]) .ret)
theorem is_power_Power_On : FnIs Try.prog 31 12 c_power_Power_On [.t 2] := ⟨Try.f31, _, Try.func31, rfl, rfl, by kernel_rfl, by kernel_rfl⟩

def c_ssd_New : CC := .seq (.reg [⟨some 4, .mov (.c .nilp), none⟩]) (.seq (.seq (.reg [⟨some 5, .mov (.t 0), none⟩, ⟨some 6, .bin .lss (.t 5) (.c (.int .i64 0)), none⟩, ⟨some 7, .mov (.t 6), none⟩, ⟨some 8, .mov (.t 0), some (7, false)⟩, ⟨some 9, .bin .gtr (.t 8) (.c (.int .i64 65536)), some (7, false)⟩, ⟨some 10, .pick (.t 7) (.c (.bool true)) (.t 9), none⟩]) (.cond (.t 10) (.seq (.reg [⟨some 4, .mov (.c .nilp), none⟩]) .ret) .skip)) (.seq (.reg [⟨some 11, .mov (.t 1), none⟩, ⟨some 12, .mov (.t 0), none⟩, ⟨some 13, .mksl 1 [.int .u8 0] 1 (.t 12) (.t 12), none⟩, ⟨some 14, .build [.nilp, .nils, .nils, .nils] [(0, 1, .t 11), (1, 1, .t 13)], none⟩, ⟨some 15, .box 4 (.t 14), none⟩, ⟨some 4, .mov (.t 15), none⟩]) .ret))
theorem is_ssd_New : FnIs Try.prog 68 16 c_ssd_New [.t 4] := ⟨Try.f68, _, Try.func68, rfl, rfl, by kernel_rfl, by kernel_rfl⟩

def c_ssd_SSD_Size : CC := .seq (.reg [⟨some 2, .mov (.c (.int .i64 0)), none⟩]) (.seq (.seq (.reg [⟨some 3, .mov (.t 0), none⟩, ⟨some 4, .eqv .p false (.t 3) (.c .nilp), none⟩]) (.cond (.t 4) (.seq (.reg [⟨some 2, .mov (.c (.int .i64 0)), none⟩]) .ret) .skip)) (.seq (.reg [⟨some 5, .mov (.t 0), none⟩, ⟨some 6, .nilck (.t 5), none⟩, ⟨some 7, .faddr 1 (.t 6), none⟩, ⟨some 8, .load 1 false (.t 7), none⟩, ⟨some 9, .len (.t 8), none⟩, ⟨some 2, .mov (.t 9), none⟩]) .ret))
theorem is_ssd_SSD_Size : FnIs Try.prog 26 10 c_ssd_SSD_Size [.t 2] := ⟨Try.f26, _, Try.func26, rfl, rfl, by kernel_rfl, by kernel_rfl⟩

def c_ssd_SSD_is : CC := .seq (.reg [⟨some 6, .mov (.c (.bool false)), none⟩]) (.seq (.reg [⟨some 7, .mov (.t 0), none⟩, ⟨some 8, .eqv .p true (.t 7) (.c .nilp), none⟩, ⟨some 9, .mov (.t 8), none⟩, ⟨some 10, .mov (.t 1), some (9, true)⟩, ⟨some 11, .bin .geq (.t 10) (.c (.int .i64 0)), some (9, true)⟩, ⟨some 12, .pick (.t 9) (.t 11) (.c (.bool false)), none⟩, ⟨some 13, .mov (.t 12), none⟩, ⟨some 14, .mov (.t 2), some (13, true)⟩, ⟨some 15, .bin .geq (.t 14) (.c (.int .i64 0)), some (13, true)⟩, ⟨some 16, .pick (.t 13) (.t 15) (.c (.bool false)), none⟩, ⟨some 17, .mov (.t 16), none⟩, ⟨some 18, .mov (.t 1), some (17, true)⟩, ⟨some 19, .mov (.t 0), some (17, true)⟩, ⟨some 20, .call 26 [.t 19], some (17, true)⟩, ⟨some 21, .bin .leq (.t 18) (.t 20), some (17, true)⟩, ⟨some 22, .pick (.t 17) (.t 21) (.c (.bool false)), none⟩, ⟨some 23, .mov (.t 22), none⟩, ⟨some 24, .mov (.t 2), some (23, true)⟩, ⟨some 25, .mov (.t 0), some (23, true)⟩, ⟨some 26, .call 26 [.t 25], some (23, true)⟩, ⟨some 27, .mov (.t 1), some (23, true)⟩, ⟨some 28, .bin .sub (.t 26) (.t 27), some (23, true)⟩, ⟨some 29, .bin .leq (.t 24) (.t 28), some (23, true)⟩, ⟨some 30, .pick (.t 23) (.t 29) (.c (.bool false)), none⟩, ⟨some 6, .mov (.t 30), none⟩]) .ret)
theorem is_ssd_SSD_is : FnIs Try.prog 77 31 c_ssd_SSD_is [.t 6] := ⟨Try.f77, _, Try.func77, rfl, rfl, by kernel_rfl, by kernel_rfl⟩

def c_ssd_copied : CC := .seq (.reg [⟨some 1, .box 2 (.t 0), none⟩, ⟨some 2, .alloc [.int .i64 0, .nils], none⟩]) (.seq (.dreg [⟨some 3, .faddr 0 (.t 1), none⟩, ⟨some 4, .load 1 false (.t 3), none⟩, ⟨some 5, .faddr 1 (.t 1), none⟩, ⟨some 6, .load 1 false (.t 5), none⟩, ⟨some 7, .call 60 [.t 6], none⟩, ⟨some 8, .build [.int .i64 0, .nils] [(0, 1, .t 4), (1, 1, .t 7)], none⟩, ⟨none, .store 2 (.t 2) (.t 8), none⟩] [[], [0], [], [2], [3], [1, 4], [5, 4, 0, 1, 2, 3, 4, 5]]) .ret)
theorem is_ssd_copied : FnIs Try.prog 78 9 c_ssd_copied [.cell 2 2 true] := ⟨Try.f78, _, Try.func78, rfl, rfl, by kernel_rfl, by kernel_rfl⟩

def c_ssd_SSD_Write : CC := .seq (.reg [⟨some 6, .mov (.c (.bool false)), none⟩]) (.seq (.seq (.reg [⟨some 8, .mov (.t 0), none⟩, ⟨some 9, .mov (.t 1), none⟩, ⟨some 10, .mov (.t 2), none⟩, ⟨some 11, .len (.t 10), none⟩, ⟨some 12, .call 77 [.t 8, .t 9, .t 11], none⟩, ⟨some 13, .not (.t 12), none⟩, ⟨some 14, .mov (.t 13), none⟩, ⟨some 15, .mov (.t 0), some (14, false)⟩, ⟨some 16, .nilck (.t 15), some (14, false)⟩, ⟨some 17, .faddr 0 (.t 16), some (14, false)⟩, ⟨some 18, .load 1 false (.t 17), some (14, false)⟩, ⟨some 19, .call 37 [.t 18], some (14, false)⟩, ⟨some 20, .not (.t 19), some (14, false)⟩, ⟨some 21, .pick (.t 14) (.c (.bool true)) (.t 20), none⟩]) (.cond (.t 21) (.seq (.reg [⟨some 6, .mov (.c (.bool false)), none⟩]) .ret) .skip)) (.seq (.reg [⟨some 22, .mov (.t 1), none⟩, ⟨some 23, .mov (.t 2), none⟩, ⟨some 24, .build [.int .i64 0, .nils] [(0, 1, .t 22), (1, 1, .t 23)], none⟩, ⟨some 7, .alloc [.int .i64 0, .nils], none⟩, ⟨none, .store 2 (.t 7) (.t 24), none⟩]) (.seq (.dreg [⟨some 25, .mov (.t 0), none⟩, ⟨some 26, .mov (.t 0), none⟩, ⟨some 27, .nilck (.t 26), none⟩, ⟨some 28, .faddr 2 (.t 27), none⟩, ⟨some 29, .load 1 false (.t 28), none⟩, ⟨some 30, .load 2 true (.t 7), none⟩, ⟨some 31, .call 78 [.t 30], none⟩, ⟨some 32, .bsl 2 [.t 31], none⟩, ⟨some 33, .app 2 32 (.t 29) (.t 32), none⟩, ⟨some 34, .nilck (.t 25), none⟩, ⟨some 35, .faddr 2 (.t 34), none⟩, ⟨none, .store 1 (.t 35) (.t 33), none⟩] [[], [], [1], [2], [3], [], [5], [6], [4, 7, 6], [0, 0, 1, 2, 3, 4, 5, 6, 7, 8], [9, 0, 1, 2, 3, 4, 5, 6, 7, 8], [10, 8, 8, 0, 1, 2, 3, 4, 5, 6, 7, 8]]) (.seq (.dreg [⟨some 36, .mov (.t 0), none⟩, ⟨some 37, .mov (.t 0), none⟩, ⟨some 38, .nilck (.t 37), none⟩, ⟨some 39, .faddr 3 (.t 38), none⟩, ⟨some 40, .load 1 false (.t 39), none⟩, ⟨some 41, .load 2 true (.t 7), none⟩, ⟨some 42, .call 78 [.t 41], none⟩, ⟨some 43, .bsl 2 [.t 42], none⟩, ⟨some 44, .app 2 32 (.t 40) (.t 43), none⟩, ⟨some 45, .nilck (.t 36), none⟩, ⟨some 46, .faddr 3 (.t 45), none⟩, ⟨none, .store 1 (.t 46) (.t 44), none⟩] [[], [], [1], [2], [3], [], [5], [6], [4, 7, 6], [0, 0, 1, 2, 3, 4, 5, 6, 7, 8], [9, 0, 1, 2, 3, 4, 5, 6, 7, 8], [10, 8, 8, 0, 1, 2, 3, 4, 5, 6, 7, 8]]) (.seq (.reg [⟨some 6, .mov (.c (.bool true)), none⟩]) .ret)))))
theorem is_ssd_SSD_Write : FnIs Try.prog 33 47 c_ssd_SSD_Write [.t 6] := ⟨Try.f33, _, Try.func33, rfl, rfl, by kernel_rfl, by kernel_rfl⟩

def c_ssd_SSD_Read : CC := .seq (.reg [⟨some 6, .mov (.c .nils), none⟩, ⟨some 7, .mov (.c (.bool false)), none⟩]) (.seq (.seq (.reg [⟨some 8, .mov (.t 0), none⟩, ⟨some 9, .mov (.t 1), none⟩, ⟨some 10, .mov (.t 2), none⟩, ⟨some 11, .call 77 [.t 8, .t 9, .t 10], none⟩, ⟨some 12, .not (.t 11), none⟩, ⟨some 13, .mov (.t 12), none⟩, ⟨some 14, .mov (.t 0), some (13, false)⟩, ⟨some 15, .nilck (.t 14), some (13, false)⟩, ⟨some 16, .faddr 0 (.t 15), some (13, false)⟩, ⟨some 17, .load 1 false (.t 16), some (13, false)⟩, ⟨some 18, .call 31 [.t 17], some (13, false)⟩, ⟨some 19, .not (.t 18), some (13, false)⟩, ⟨some 20, .pick (.t 13) (.c (.bool true)) (.t 19), none⟩]) (.cond (.t 20) (.seq (.reg [⟨some 6, .mov (.c .nils), none⟩, ⟨some 7, .mov (.c (.bool false)), none⟩]) .ret) .skip)) (.seq (.reg [⟨some 21, .mov (.t 0), none⟩, ⟨some 22, .call 54 [.t 21], none⟩, ⟨some 23, .mov (.t 1), none⟩, ⟨some 24, .mov (.t 1), none⟩, ⟨some 25, .mov (.t 2), none⟩, ⟨some 26, .bin .add (.t 24) (.t 25), none⟩, ⟨some 27, .slc 1 (.t 22) (some (.t 23)) (some (.t 26)), none⟩, ⟨some 6, .mov (.t 27), none⟩, ⟨some 7, .mov (.c (.bool true)), none⟩]) .ret))
theorem is_ssd_SSD_Read : FnIs Try.prog 39 28 c_ssd_SSD_Read [.t 6, .t 7] := ⟨Try.f39, _, Try.func39, rfl, rfl, by kernel_rfl, by kernel_rfl⟩

def c_ssd_SSD_Snap : CC := .seq (.reg [⟨some 2, .mov (.c .nils), none⟩]) (.seq (.seq (.reg [⟨some 6, .mov (.t 0), none⟩, ⟨some 7, .eqv .p false (.t 6) (.c .nilp), none⟩]) (.cond (.t 7) (.seq (.reg [⟨some 2, .mov (.c .nils), none⟩]) .ret) .skip)) (.seq (.reg [⟨some 8, .mov (.t 0), none⟩, ⟨some 9, .nilck (.t 8), none⟩, ⟨some 10, .faddr 1 (.t 9), none⟩, ⟨some 11, .load 1 false (.t 10), none⟩, ⟨some 12, .call 60 [.t 11], none⟩, ⟨some 3, .mov (.t 12), none⟩]) (.seq (.seq (.reg [⟨some 13, .mov (.t 0), none⟩, ⟨some 14, .nilck (.t 13), none⟩, ⟨some 15, .faddr 2 (.t 14), none⟩, ⟨some 16, .load 1 false (.t 15), none⟩, ⟨some 17, .len (.t 16), none⟩, ⟨some 18, .mov (.c (.int .i64 0)), none⟩]) (.block 0 (.loop (.seq (.reg [⟨some 19, .bin .lss (.t 18) (.t 17), none⟩]) (.seq (.cond (.t 19) .skip (.exit 0)) (.seq (.block 1 (.seq (.reg [⟨some 20, .iaddr 2 (.t 16) (.t 18), none⟩, ⟨some 21, .load 2 true (.t 20), none⟩, ⟨some 5, .alloc [.int .i64 0, .nils], none⟩, ⟨none, .store 2 (.t 5) (.t 21), none⟩]) (.dreg [⟨some 22, .mov (.t 3), none⟩, ⟨some 23, .faddr 0 (.t 5), none⟩, ⟨some 24, .load 1 false (.t 23), none⟩, ⟨some 25, .slc 1 (.t 22) (some (.t 24)) none, none⟩, ⟨some 26, .faddr 1 (.t 5), none⟩, ⟨some 27, .load 1 false (.t 26), none⟩, ⟨some 28, .cpy 1 (.t 25) (.t 27), none⟩] [[], [], [1], [0, 2], [], [4], [3, 5]]))) (.reg [⟨some 29, .bin .add (.t 18) (.c (.int .i64 1)), none⟩, ⟨some 18, .mov (.t 29), none⟩]))))))) (.seq (.reg [⟨some 30, .mov (.t 3), none⟩, ⟨some 2, .mov (.t 30), none⟩]) .ret))))
theorem is_ssd_SSD_Snap : FnIs Try.prog 54 31 c_ssd_SSD_Snap [.t 2] := ⟨Try.f54, _, Try.func54, rfl, rfl, by kernel_rfl, by kernel_rfl⟩

def c_disk_New : CC := .seq (.reg [⟨some 2, .mov (.c .nilp), none⟩]) (.seq (.reg [⟨some 5, .mov (.t 0), none⟩, ⟨some 6, .build [.nilp, .nils, .nils, .nils, .nils, .nils, .nils, .nils, .nils, .nils, .nils, .nils, .nils, .nils, .nils, .nils, .nils, .nils, .nils, .nils, .nils, .nils, .nils, .nils, .nils, .nils, .nils, .nils, .nils, .nils, .nils, .nils, .nils, .nils, .nils, .bool false] [(0, 1, .t 5)], none⟩, ⟨some 7, .box 36 (.t 6), none⟩, ⟨some 3, .mov (.t 7), none⟩]) (.seq (.seq (.reg [⟨some 8, .mov (.c (.int .i64 0)), none⟩]) (.block 0 (.loop (.seq (.reg [⟨some 9, .bin .lss (.t 8) (.c (.int .i64 32)), none⟩]) (.seq (.cond (.t 9) .skip (.exit 0)) (.seq (.block 1 (.seq (.reg [⟨some 10, .mov (.t 8), none⟩, ⟨some 4, .mov (.t 10), none⟩]) (.dreg [⟨some 11, .mov (.t 3), none⟩, ⟨some 12, .mov (.t 4), none⟩, ⟨some 13, .mksl 1 [.int .u8 0] 1 (.c (.int .i64 32)) (.c (.int .i64 32)), none⟩, ⟨some 14, .nilck (.t 11), none⟩, ⟨some 15, .faddr 1 (.t 14), none⟩, ⟨some 16, .iaddrA 32 1 (.t 15) (.t 12), none⟩, ⟨none, .store 1 (.t 16) (.t 13), none⟩] [[], [], [], [0], [3], [4, 1, 0, 1, 2], [5, 2, 0, 1, 2]]))) (.reg [⟨some 17, .bin .add (.t 8) (.c (.int .i64 1)), none⟩, ⟨some 8, .mov (.t 17), none⟩]))))))) (.seq (.reg [⟨some 18, .mov (.t 3), none⟩, ⟨some 2, .mov (.t 18), none⟩]) .ret)))
theorem is_disk_New : FnIs Try.prog 70 19 c_disk_New [.t 2] := ⟨Try.f70, _, Try.func70, rfl, rfl, by kernel_rfl, by kernel_rfl⟩

def c_count_New : CC := .seq (.reg [⟨some 2, .mov (.c .nilp), none⟩]) (.seq (.reg [⟨some 3, .mov (.t 0), none⟩, ⟨some 4, .build [.nilp, .int .u64 0, .int .u64 0, .int .u64 0] [(0, 1, .t 3)], none⟩, ⟨some 5, .box 4 (.t 4), none⟩, ⟨some 2, .mov (.t 5), none⟩]) .ret)
theorem is_count_New : FnIs Try.prog 71 6 c_count_New [.t 2] := ⟨Try.f71, _, Try.func71, rfl, rfl, by kernel_rfl, by kernel_rfl⟩

def c_count_Counter_At : CC := .seq (.reg [⟨some 2, .mov (.c (.int .u64 0)), none⟩]) (.seq (.seq (.reg [⟨some 3, .mov (.t 0), none⟩, ⟨some 4, .eqv .p false (.t 3) (.c .nilp), none⟩]) (.cond (.t 4) (.seq (.reg [⟨some 2, .mov (.c (.int .u64 0)), none⟩]) .ret) .skip)) (.seq (.reg [⟨some 5, .mov (.t 0), none⟩, ⟨some 6, .nilck (.t 5), none⟩, ⟨some 7, .faddr 3 (.t 6), none⟩, ⟨some 8, .load 1 false (.t 7), none⟩, ⟨some 2, .mov (.t 8), none⟩]) .ret))
theorem is_count_Counter_At : FnIs Try.prog 127 9 c_count_Counter_At [.t 2] := ⟨Try.f127, _, Try.func127, rfl, rfl, by kernel_rfl, by kernel_rfl⟩

def c_keys_New : CC := .seq (.reg [⟨some 4, .mov (.c .nilp), none⟩]) (.seq (.reg [⟨some 5, .mov (.t 1), none⟩, ⟨some 6, .mov (.t 0), none⟩, ⟨some 7, .bsl 1 [.c (.int .u32 1)], none⟩, ⟨some 8, .build [.nilp, .int .u64 0, .nils] [(0, 1, .t 5), (1, 1, .t 6), (2, 1, .t 7)], none⟩, ⟨some 9, .box 3 (.t 8), none⟩, ⟨some 4, .mov (.t 9), none⟩]) .ret)
theorem is_keys_New : FnIs Try.prog 72 10 c_keys_New [.t 4] := ⟨Try.f72, _, Try.func72, rfl, rfl, by kernel_rfl, by kernel_rfl⟩

def c_keys_Of : CC := .seq (.reg [⟨some 4, .alloc [.int .u64 0, .int .u64 0], none⟩]) (.seq (.reg [⟨some 5, .mov (.t 0), none⟩, ⟨some 6, .mov (.t 0), none⟩, ⟨some 7, .build [.int .u64 0, .int .u64 0] [(0, 1, .t 5), (1, 1, .t 6)], none⟩, ⟨some 8, .mov (.t 1), none⟩, ⟨some 9, .conv .u64 (.t 8), none⟩, ⟨some 10, .build [.int .u64 0, .int .u64 0] [(0, 1, .c (.int .u64 0)), (1, 1, .t 9)], none⟩, ⟨some 11, .call 143 [.t 7, .t 10], none⟩, ⟨none, .store 2 (.t 4) (.t 11), none⟩]) .ret)
theorem is_keys_Of : FnIs Try.prog 110 12 c_keys_Of [.cell 4 2 true] := ⟨Try.f110, _, Try.func110, rfl, rfl, by kernel_rfl, by kernel_rfl⟩

def c_keys_Keys_Current : CC := .seq (.reg [⟨some 2, .mov (.c (.int .u32 0)), none⟩]) (.seq (.seq (.reg [⟨some 3, .mov (.t 0), none⟩, ⟨some 4, .eqv .p false (.t 3) (.c .nilp), none⟩]) (.cond (.t 4) (.seq (.reg [⟨some 2, .mov (.c (.int .u32 0)), none⟩]) .ret) .skip)) (.seq (.dreg [⟨some 5, .mov (.t 0), none⟩, ⟨some 6, .nilck (.t 5), none⟩, ⟨some 7, .faddr 2 (.t 6), none⟩, ⟨some 8, .load 1 false (.t 7), none⟩, ⟨some 9, .mov (.t 0), none⟩, ⟨some 10, .nilck (.t 9), none⟩, ⟨some 11, .faddr 2 (.t 10), none⟩, ⟨some 12, .load 1 false (.t 11), none⟩, ⟨some 13, .len (.t 12), none⟩, ⟨some 14, .bin .sub (.t 13) (.c (.int .i64 1)), none⟩, ⟨some 15, .iaddr 1 (.t 8) (.t 14), none⟩, ⟨some 16, .load 1 false (.t 15), none⟩, ⟨some 2, .mov (.t 16), none⟩] [[], [0], [1], [2], [], [4], [5], [6], [7], [8], [3, 9], [10], [11, 0, 1, 2, 3, 4, 5, 6, 7, 8, 9, 10, 11]]) .ret))
theorem is_keys_Keys_Current : FnIs Try.prog 73 17 c_keys_Keys_Current [.t 2] := ⟨Try.f73, _, Try.func73, rfl, rfl, by kernel_rfl, by kernel_rfl⟩

def c_keys_Keys_Key : CC := .seq (.reg [⟨some 4, .alloc [.int .u64 0, .int .u64 0], none⟩, ⟨some 5, .mov (.c (.bool false)), none⟩]) (.seq (.seq (.reg [⟨some 6, .mov (.t 0), none⟩, ⟨some 7, .call 109 [.t 6], none⟩, ⟨some 8, .mov (.t 1), none⟩, ⟨some 9, .call 108 [.t 7, .t 8], none⟩, ⟨some 10, .not (.t 9), none⟩]) (.cond (.t 10) (.seq (.reg [⟨some 11, .build [.int .u64 0, .int .u64 0] [], none⟩, ⟨none, .store 2 (.t 4) (.t 11), none⟩, ⟨some 5, .mov (.c (.bool false)), none⟩]) .ret) .skip)) (.seq (.reg [⟨some 12, .mov (.t 0), none⟩, ⟨some 13, .nilck (.t 12), none⟩, ⟨some 14, .faddr 1 (.t 13), none⟩, ⟨some 15, .load 1 false (.t 14), none⟩, ⟨some 16, .mov (.t 1), none⟩, ⟨some 17, .call 110 [.t 15, .t 16], none⟩, ⟨none, .store 2 (.t 4) (.t 17), none⟩, ⟨some 5, .mov (.c (.bool true)), none⟩]) .ret))
theorem is_keys_Keys_Key : FnIs Try.prog 74 18 c_keys_Keys_Key [.cell 4 2 true, .t 5] := ⟨Try.f74, _, Try.func74, rfl, rfl, by kernel_rfl, by kernel_rfl⟩

def c_keys_Keys_Add : CC := .seq (.reg [⟨some 2, .mov (.c (.bool false)), none⟩]) (.seq (.seq (.reg [⟨some 3, .mov (.t 0), none⟩, ⟨some 4, .eqv .p false (.t 3) (.c .nilp), none⟩, ⟨some 5, .mov (.t 4), none⟩, ⟨some 6, .mov (.t 0), some (5, false)⟩, ⟨some 7, .nilck (.t 6), some (5, false)⟩, ⟨some 8, .faddr 0 (.t 7), some (5, false)⟩, ⟨some 9, .load 1 false (.t 8), some (5, false)⟩, ⟨some 10, .call 37 [.t 9], some (5, false)⟩, ⟨some 11, .not (.t 10), some (5, false)⟩, ⟨some 12, .pick (.t 5) (.c (.bool true)) (.t 11), none⟩]) (.cond (.t 12) (.seq (.reg [⟨some 2, .mov (.c (.bool false)), none⟩]) .ret) .skip)) (.seq (.dreg [⟨some 13, .mov (.t 0), none⟩, ⟨some 14, .mov (.t 0), none⟩, ⟨some 15, .nilck (.t 14), none⟩, ⟨some 16, .faddr 2 (.t 15), none⟩, ⟨some 17, .load 1 false (.t 16), none⟩, ⟨some 18, .mov (.t 0), none⟩, ⟨some 19, .call 73 [.t 18], none⟩, ⟨some 20, .bin .add (.t 19) (.c (.int .u32 1)), none⟩, ⟨some 21, .bsl 1 [.t 20], none⟩, ⟨some 22, .app 1 4 (.t 17) (.t 21), none⟩, ⟨some 23, .nilck (.t 13), none⟩, ⟨some 24, .faddr 2 (.t 23), none⟩, ⟨none, .store 1 (.t 24) (.t 22), none⟩] [[], [], [1], [2], [3], [], [5], [6], [7], [4, 8, 6], [0, 0, 1, 2, 3, 4, 5, 6, 7, 8, 9], [10, 0, 1, 2, 3, 4, 5, 6, 7, 8, 9], [11, 9, 9, 0, 1, 2, 3, 4, 5, 6, 7, 8, 9]]) (.seq (.reg [⟨some 2, .mov (.c (.bool true)), none⟩]) .ret)))
theorem is_keys_Keys_Add : FnIs Try.prog 42 25 c_keys_Keys_Add [.t 2] := ⟨Try.f42, _, Try.func42, rfl, rfl, by kernel_rfl, by kernel_rfl⟩

def c_keys_Keys_Erase : CC := .seq (.reg [⟨some 3, .box 1 (.t 1), none⟩, ⟨some 4, .mov (.c (.bool false)), none⟩]) (.seq (.seq (.reg [⟨some 6, .mov (.t 0), none⟩, ⟨some 7, .eqv .p false (.t 6) (.c .nilp), none⟩, ⟨some 8, .mov (.t 7), none⟩, ⟨some 9, .mov (.t 0), some (8, false)⟩, ⟨some 10, .nilck (.t 9), some (8, false)⟩, ⟨some 11, .faddr 0 (.t 10), some (8, false)⟩, ⟨some 12, .load 1 false (.t 11), some (8, false)⟩, ⟨some 13, .call 37 [.t 12], some (8, false)⟩, ⟨some 14, .not (.t 13), some (8, false)⟩, ⟨some 15, .pick (.t 8) (.c (.bool true)) (.t 14), none⟩]) (.cond (.t 15) (.seq (.reg [⟨some 4, .mov (.c (.bool false)), none⟩]) .ret) .skip)) (.seq (.reg [⟨some 16, .mov (.t 0), none⟩, ⟨some 17, .call 73 [.t 16], none⟩, ⟨some 5, .alloc [.int .u32 0], none⟩, ⟨none, .store 1 (.t 5) (.t 17), none⟩]) (.seq (.reg [⟨some 18, .mov (.t 0), none⟩, ⟨some 19, .mov (.t 0), none⟩, ⟨some 20, .nilck (.t 19), none⟩, ⟨some 21, .faddr 2 (.t 20), none⟩, ⟨some 22, .load 1 false (.t 21), none⟩, ⟨some 23, .mkf (.func 100) [] [.t 3, .t 5], none⟩, ⟨some 24, .call 99 [.t 22, .t 23], none⟩, ⟨some 25, .nilck (.t 18), none⟩, ⟨some 26, .faddr 2 (.t 25), none⟩, ⟨none, .store 1 (.t 26) (.t 24), none⟩]) (.seq (.reg [⟨some 4, .mov (.c (.bool true)), none⟩]) .ret))))
theorem is_keys_Keys_Erase : FnIs Try.prog 57 27 c_keys_Keys_Erase [.t 4] := ⟨Try.f57, _, Try.func57, rfl, rfl, by kernel_rfl, by kernel_rfl⟩

def c_keys_Keys_Erase_1 : CC := .seq (.reg [⟨some 4, .mov (.c (.bool false)), none⟩]) (.seq (.reg [⟨some 5, .mov (.t 0), none⟩, ⟨some 6, .load 1 false (.t 1), none⟩, ⟨some 7, .bin .lss (.t 5) (.t 6), none⟩, ⟨some 8, .mov (.t 7), none⟩, ⟨some 9, .mov (.t 0), some (8, true)⟩, ⟨some 10, .load 1 false (.t 2), some (8, true)⟩, ⟨some 11, .bin .neq (.t 9) (.t 10), some (8, true)⟩, ⟨some 12, .pick (.t 8) (.t 11) (.c (.bool false)), none⟩, ⟨some 4, .mov (.t 12), none⟩]) .ret)
theorem is_keys_Keys_Erase_1 : FnIs Try.prog 100 13 c_keys_Keys_Erase_1 [.t 4] := ⟨Try.f100, _, Try.func100, rfl, rfl, by kernel_rfl, by kernel_rfl⟩

def c_keys_Keys_Epochs : CC := .seq (.reg [⟨some 2, .mov (.c .nils), none⟩]) (.seq (.seq (.reg [⟨some 3, .mov (.t 0), none⟩, ⟨some 4, .eqv .p false (.t 3) (.c .nilp), none⟩]) (.cond (.t 4) (.seq (.reg [⟨some 2, .mov (.c .nils), none⟩]) .ret) .skip)) (.seq (.reg [⟨some 5, .mov (.t 0), none⟩, ⟨some 6, .nilck (.t 5), none⟩, ⟨some 7, .faddr 2 (.t 6), none⟩, ⟨some 8, .load 1 false (.t 7), none⟩, ⟨some 9, .call 142 [.t 8], none⟩, ⟨some 2, .mov (.t 9), none⟩]) .ret))
theorem is_keys_Keys_Epochs : FnIs Try.prog 109 10 c_keys_Keys_Epochs [.t 2] := ⟨Try.f109, _, Try.func109, rfl, rfl, by kernel_rfl, by kernel_rfl⟩

def c_slices_DeleteFuncuint32_uint32 : CC := .seq (.reg [⟨some 4, .mov (.c .nils), none⟩]) (.seq (.reg [⟨some 8, .mov (.t 0), none⟩, ⟨some 9, .mov (.t 1), none⟩, ⟨some 10, .call 131 [.t 8, .t 9], none⟩, ⟨some 5, .mov (.t 10), none⟩]) (.seq (.seq (.reg [⟨some 11, .mov (.t 5), none⟩, ⟨some 12, .bin .eql (.t 11) (.c (.int .i64 (-1))), none⟩]) (.cond (.t 12) (.seq (.reg [⟨some 13, .mov (.t 0), none⟩, ⟨some 4, .mov (.t 13), none⟩]) .ret) .skip)) (.seq (.seq (.reg [⟨some 14, .mov (.t 5), none⟩, ⟨some 15, .bin .add (.t 14) (.c (.int .i64 1)), none⟩, ⟨some 6, .mov (.t 15), none⟩]) (.block 0 (.loop (.seq (.seq (.reg [⟨some 16, .mov (.t 6), none⟩, ⟨some 17, .mov (.t 0), none⟩, ⟨some 18, .len (.t 17), none⟩, ⟨some 19, .bin .lss (.t 16) (.t 18), none⟩]) (.cond (.t 19) .skip (.exit 0))) (.seq (.block 1 (.seq (.reg [⟨some 22, .mov (.t 0), none⟩, ⟨some 23, .mov (.t 6), none⟩, ⟨some 24, .iaddr 1 (.t 22) (.t 23), none⟩, ⟨some 25, .load 1 false (.t 24), none⟩, ⟨some 7, .mov (.t 25), none⟩]) (.seq (.reg [⟨some 26, .mov (.t 1), none⟩, ⟨some 27, .mov (.t 7), none⟩, ⟨some 28, .callv (.t 26) [.t 27], none⟩, ⟨some 29, .not (.t 28), none⟩]) (.cond (.t 29) (.seq (.reg [⟨some 30, .mov (.t 0), none⟩, ⟨some 31, .mov (.t 5), none⟩, ⟨some 32, .mov (.t 7), none⟩, ⟨some 33, .iaddr 1 (.t 30) (.t 31), none⟩, ⟨none, .store 1 (.t 33) (.t 32), none⟩]) (.reg [⟨some 34, .mov (.t 5), none⟩, ⟨some 35, .bin .add (.t 34) (.c (.int .i64 1)), none⟩, ⟨some 5, .mov (.t 35), none⟩])) .skip)))) (.reg [⟨some 20, .mov (.t 6), none⟩, ⟨some 21, .bin .add (.t 20) (.c (.int .i64 1)), none⟩, ⟨some 6, .mov (.t 21), none⟩])))))) (.seq (.reg [⟨some 36, .mov (.t 0), none⟩, ⟨some 37, .mov (.t 5), none⟩, ⟨some 38, .slc 1 (.t 36) (some (.t 37)) none, none⟩, ⟨none, .raw (Ex.clr 1 [.int .u32 0] (.t 38)), none⟩]) (.seq (.reg [⟨some 39, .mov (.t 0), none⟩, ⟨some 40, .mov (.t 5), none⟩, ⟨some 41, .slc 1 (.t 39) none (some (.t 40)), none⟩, ⟨some 4, .mov (.t 41), none⟩]) .ret)))))
theorem is_slices_DeleteFuncuint32_uint32 : FnIs Try.prog 99 42 c_slices_DeleteFuncuint32_uint32 [.t 4] := ⟨Try.f99, _, Try.func99, rfl, rfl, by kernel_rfl, by kernel_rfl⟩

def c_slices_Containsuint32_uint32 : CC := .seq (.reg [⟨some 4, .mov (.c (.bool false)), none⟩]) (.seq (.reg [⟨some 5, .mov (.t 0), none⟩, ⟨some 6, .mov (.t 1), none⟩, ⟨some 7, .call 141 [.t 5, .t 6], none⟩, ⟨some 8, .bin .geq (.t 7) (.c (.int .i64 0)), none⟩, ⟨some 4, .mov (.t 8), none⟩]) .ret)
theorem is_slices_Containsuint32_uint32 : FnIs Try.prog 108 9 c_slices_Containsuint32_uint32 [.t 4] := ⟨Try.f108, _, Try.func108, rfl, rfl, by kernel_rfl, by kernel_rfl⟩

def c_slices_IndexFuncuint32_uint32 : CC := .seq (.reg [⟨some 4, .mov (.c (.int .i64 0)), none⟩]) (.seq (.seq (.reg [⟨some 6, .mov (.t 0), none⟩, ⟨some 7, .len (.t 6), none⟩, ⟨some 8, .mov (.c (.int .i64 0)), none⟩]) (.block 0 (.loop (.seq (.reg [⟨some 9, .bin .lss (.t 8) (.t 7), none⟩]) (.seq (.cond (.t 9) .skip (.exit 0)) (.seq (.block 1 (.seq (.reg [⟨some 10, .mov (.t 8), none⟩, ⟨some 5, .mov (.t 10), none⟩]) (.seq (.reg [⟨some 11, .mov (.t 1), none⟩, ⟨some 12, .mov (.t 0), none⟩, ⟨some 13, .mov (.t 5), none⟩, ⟨some 14, .iaddr 1 (.t 12) (.t 13), none⟩, ⟨some 15, .load 1 false (.t 14), none⟩, ⟨some 16, .callv (.t 11) [.t 15], none⟩]) (.cond (.t 16) (.seq (.reg [⟨some 17, .mov (.t 5), none⟩, ⟨some 4, .mov (.t 17), none⟩]) .ret) .skip)))) (.reg [⟨some 18, .bin .add (.t 8) (.c (.int .i64 1)), none⟩, ⟨some 8, .mov (.t 18), none⟩]))))))) (.seq (.reg [⟨some 4, .mov (.c (.int .i64 (-1))), none⟩]) .ret))
theorem is_slices_IndexFuncuint32_uint32 : FnIs Try.prog 131 19 c_slices_IndexFuncuint32_uint32 [.t 4] := ⟨Try.f131, _, Try.func131, rfl, rfl, by kernel_rfl, by kernel_rfl⟩

def c_slices_Indexuint32_uint32 : CC := .seq (.reg [⟨some 4, .mov (.c (.int .i64 0)), none⟩]) (.seq (.seq (.reg [⟨some 6, .mov (.t 0), none⟩, ⟨some 7, .len (.t 6), none⟩, ⟨some 8, .mov (.c (.int .i64 0)), none⟩]) (.block 0 (.loop (.seq (.reg [⟨some 9, .bin .lss (.t 8) (.t 7), none⟩]) (.seq (.cond (.t 9) .skip (.exit 0)) (.seq (.block 1 (.seq (.reg [⟨some 10, .mov (.t 8), none⟩, ⟨some 5, .mov (.t 10), none⟩]) (.seq (.reg [⟨some 11, .mov (.t 1), none⟩, ⟨some 12, .mov (.t 0), none⟩, ⟨some 13, .mov (.t 5), none⟩, ⟨some 14, .iaddr 1 (.t 12) (.t 13), none⟩, ⟨some 15, .load 1 false (.t 14), none⟩, ⟨some 16, .bin .eql (.t 11) (.t 15), none⟩]) (.cond (.t 16) (.seq (.reg [⟨some 17, .mov (.t 5), none⟩, ⟨some 4, .mov (.t 17), none⟩]) .ret) .skip)))) (.reg [⟨some 18, .bin .add (.t 8) (.c (.int .i64 1)), none⟩, ⟨some 8, .mov (.t 18), none⟩]))))))) (.seq (.reg [⟨some 4, .mov (.c (.int .i64 (-1))), none⟩]) .ret))
theorem is_slices_Indexuint32_uint32 : FnIs Try.prog 141 19 c_slices_Indexuint32_uint32 [.t 4] := ⟨Try.f141, _, Try.func141, rfl, rfl, by kernel_rfl, by kernel_rfl⟩

def c_slices_Cloneuint32_uint32 : CC := .seq (.reg [⟨some 2, .mov (.c .nils), none⟩]) (.seq (.seq (.reg [⟨some 3, .mov (.t 0), none⟩, ⟨some 4, .isnil false (.t 3), none⟩]) (.cond (.t 4) (.seq (.reg [⟨some 2, .mov (.c .nils), none⟩]) .ret) .skip)) (.seq (.reg [⟨some 5, .bsl0, none⟩, ⟨some 6, .mov (.t 0), none⟩, ⟨some 7, .app 1 4 (.t 5) (.t 6), none⟩, ⟨some 2, .mov (.t 7), none⟩]) .ret))
theorem is_slices_Cloneuint32_uint32 : FnIs Try.prog 142 8 c_slices_Cloneuint32_uint32 [.t 2] := ⟨Try.f142, _, Try.func142, rfl, rfl, by kernel_rfl, by kernel_rfl⟩

end Go.Proofs.Ytjehfcjfnmcjcaa


namespace Go.Proofs.Ytjehfcjfnmcjcaa
open Go Go.Abs

theorem hp_ext' {h k : AHeap} (h1 : ∀ i, h.get i = k.get i) (h2 : h.next = k.next) (h3 : ∀ i, h.gap i = k.gap i) : h = k := by
  cases h; cases k
  simp only at h1 h2 h3
  rw [funext h1, h2, funext h3]
theorem set_self {h : AHeap} {s : Nat} {x : Option AObj} (hs : h.get s = x) : h.set s x = h :=
  hp_ext' (fun i => by rw [get_set]; split; · rename_i e; rw [e, hs]
                       · rfl) rfl fun _ => rfl
theorem clo_flat4 {N : Nat → Prop} {n : Nat} {row : List AV} (h : ∀ v ∈ row, AV.flat v = true) : CloObj N (.mem n [row]) := by
  intro x hx v hv
  simp only [List.mem_singleton] at hx
  subst hx
  exact clo_flat (h v hv)
theorem PwS.flat (s : PwS) : ∀ v ∈ s.row, AV.flat v = true := by simp [PwS.row, AV.flat]
theorem power_On_ae {h : AHeap} {p : Nat} {s : PwS} (hp : h.get p = some (.mem 4 [s.row])) : AE Try.prog 31 [.ptr p 0 0] h (.bool (!s.gone)) h := by
  refine AE.wf fun hwf => ?_
  have h0 := hwf _ _ hp
  refine AE.pureW is_power_Power_On (by simp) ?_
  unfold c_power_Power_On
  simp only [PwS.row] at hp
  (refine go ?_)
  refine WW.ret (PureQ.finD ?_)
  exact fz_b rfl
theorem power_Spend_ae {h : AHeap} {p k : Nat} {s : PwS} (hp : h.get p = some (.mem 4 [s.row])) (hk : s.Ok k) (hkk : k ≤ 1000000000) : AE Try.prog 37 [.ptr p 0 0] h (.bool s.can) (h.set p (some (.mem 4 [s.spend.row]))) := by
  refine AE.wf fun hwf => ?_
  have h0 := hwf _ _ hp
  refine AE.effW is_power_Power_Spend (by simp) (Ext.set Ext.refl (Nm.old hp) (clo_flat4 (PwS.flat _))) ?_
  unfold c_power_Power_Spend
  have hp' := hp
  simp only [PwS.row] at hp'
  (refine go ?_)
  refine WL.call rfl (by first | exact True.intro | exact rfl) gSL (power_On_ae hp) ?_
  (refine go ?_)
  obtain ⟨k1, k2, k3, k4⟩ := hk
  cases hg : s.gone with
  | true =>
    rw [hg] at hp'
    (refine go ?_)
    refine WW.ret (EffQ.finD ?_ ?_)
    · rw [PwS.spend, if_pos hg, set_self hp]; exact Keeps.refl _
    · exact fz_b (by simp [PwS.can, hg])
  | false =>
    rw [hg] at hp'
    (refine go ?_)
    cases hf : s.fuse with
    | true =>
      rw [hf] at hp'
      have k5 := k1 hf
      (refine go ?_)
      (refine WW.ifB rfl (fun hz1 => ?_) (fun hz1 => ?_))
      · (refine go ?_)
        refine WW.ret (EffQ.finD ?_ ?_)
        · rw [PwS.spend, if_neg (by simp [hg]), if_pos (by simp [hf, hz1])]; refine ⟨gLE, fun id hu => ?_⟩; have hlt : id < AHeap.next h := hu.1; simp only [get_put, get_set]; (repeat' split) <;> first | rfl | omega | (simp [PwS.row, hf]; done)
        · exact fz_b (by simp [PwS.can, hg, hf, hz1])
      · (refine go ?_)
        refine WW.ret (EffQ.finD ?_ ?_)
        · rw [PwS.spend, if_neg (by simp [hg]), if_neg (by simp [hf, hz1]), if_pos hf]; refine ⟨gLE, fun id hu => ?_⟩; have hlt : id < AHeap.next h := hu.1; simp only [get_put, get_set]; (repeat' split) <;> first | rfl | omega | (simp [PwS.row, hf, hg]; done)
        · exact fz_b (by simp [PwS.can, hg, hf, hz1])
    | false =>
      rw [hf] at hp'
      (refine go ?_)
      refine WW.ret (EffQ.finD ?_ ?_)
      · rw [PwS.spend, if_neg (by simp [hg]), if_neg (by simp [hf]), if_neg (by simp [hf])]; refine ⟨gLE, fun id hu => ?_⟩; have hlt : id < AHeap.next h := hu.1; simp only [get_put, get_set]; (repeat' split) <;> first | rfl | omega | (simp [PwS.row, hf, hg]; done)
      · exact fz_b (by simp [PwS.can, hg, hf])
end Go.Proofs.Ytjehfcjfnmcjcaa


namespace Go.Proofs.Ytjehfcjfnmcjcaa
open Go Go.Abs

theorem power_New_ae {h : AHeap} {nx : Nat} (hn : h.next = nx) : AE Try.prog 65 [] h (.ptr nx 0 0) (h.put nx (.mem 4 [(⟨false, false, 0, 0⟩ : PwS).row])) := by
  subst hn
  refine AC.introW is_power_New (by simp) ?_
  unfold c_power_New
  (refine go ?_)
  exact WW.ret ⟨.inl rfl, _, gRES, rfl, rfl⟩
def CtS.obj (p : Nat) (c : CtS) : AObj := .mem 4 [.ptr p 0 0 :: c.row]
theorem CtS.flat (s : CtS) : ∀ v ∈ s.row, AV.flat v = true := by simp [CtS.row, AV.flat]
structure CtS.Ok (c : CtS) (k : Nat) : Prop where
  v : 0 ≤ c.value ∧ c.value ≤ k
  b : 0 ≤ c.boots ∧ c.boots ≤ k
  a : 0 ≤ c.at' ∧ c.at' ≤ k
def CtS.boot (c : CtS) (ok : Bool) : CtS := if ok then { c with boots := c.boots + 1 } else c
theorem CtS.Ok.boot {c : CtS} {k : Nat} (h : c.Ok k) (ok : Bool) : (c.boot ok).Ok (k + 1) := by
  obtain ⟨h1, h2, h3⟩ := h
  cases ok
  · exact ⟨by show 0 ≤ c.value ∧ c.value ≤ _; omega, by show 0 ≤ c.boots ∧ c.boots ≤ _; omega, by show 0 ≤ c.at' ∧ c.at' ≤ _; omega⟩
  · exact ⟨by show 0 ≤ c.value ∧ c.value ≤ _; omega, by show 0 ≤ c.boots + 1 ∧ c.boots + 1 ≤ _; omega, by show 0 ≤ c.at' ∧ c.at' ≤ _; omega⟩
theorem count_New_ae {h : AHeap} {nx p : Nat} (hn : h.next = nx) : AE Try.prog 71 [.ptr p 0 0] h (.ptr nx 0 0) (h.put nx (CtS.obj p ⟨0, 0, 0⟩)) := by
  subst hn
  refine AC.introW is_count_New (by simp) ?_
  unfold c_count_New
  (refine go ?_)
  exact WW.ret ⟨.inl rfl, _, gRES, rfl, rfl⟩
theorem count_At_ae {h : AHeap} {p c : Nat} {s : CtS} (hc : h.get c = some (s.obj p)) : AE Try.prog 127 [.ptr c 0 0] h (.int .u64 s.at') h := by
  refine AE.wf fun hwf => ?_
  have h0 := hwf _ _ hc
  refine AE.pureW is_count_Counter_At (by simp) ?_
  unfold c_count_Counter_At
  simp only [CtS.obj, CtS.row] at hc
  (refine go ?_)
  refine WW.ret (PureQ.finD ?_)
  exact .clo _ (.int _ _)
end Go.Proofs.Ytjehfcjfnmcjcaa


namespace Go.Proofs.Ytjehfcjfnmcjcaa
open Go Go.Abs

/-- The names of a device's objects. -/
structure SdN where
  p : Nat
  s : Nat
  B : Nat
  w : Nat
  t : Nat
def SdS.obj (n : SdN) (x : SdS) : AObj := .mem 4 [[.ptr n.p 0 0, .ref n.B 0 x.lasts.length, .app n.w x.gen 2 (x.waits.map encO), .app n.t 0 2 (x.trace.map encO)]]
structure SdAt (h : AHeap) (n : SdN) (w : PwS) (x : SdS) : Prop where
  pw : h.get n.p = some (.mem 4 [w.row])
  ob : h.get n.s = some (x.obj n)
  bl : h.get n.B = some (.mem 1 (x.lasts.map encB))
  wt : h.get n.w = some (.tail x.gen x.waits.length)
  tr : h.get n.t = some (.tail 0 x.trace.length)
  ne : n.w ≠ n.t
theorem sdAt_of {h : AHeap} {p s B w t : Nat} {pw : PwS} {x : SdS} (h1 : h.get p = some (.mem 4 [pw.row])) (h2 : h.get s = some (.mem 4 [[.ptr p 0 0, .ref B 0 x.lasts.length, .app w x.gen 2 (x.waits.map encO), .app t 0 2 (x.trace.map encO)]])) (h3 : h.get B = some (.mem 1 (x.lasts.map encB))) (h4 : h.get w = some (.tail x.gen x.waits.length)) (h5 : h.get t = some (.tail 0 x.trace.length)) (h6 : w ≠ t) : SdAt h ⟨p, s, B, w, t⟩ pw x := ⟨h1, h2, h3, h4, h5, h6⟩
structure SdNe (h : AHeap) (n : SdN) : Prop where
  a1 : n.p < h.next
  a2 : n.s < h.next
  a3 : n.B < h.next
  a4 : n.w < h.next
  a5 : n.t < h.next
  b1 : n.p ≠ n.s
  b2 : n.p ≠ n.B
  b3 : n.p ≠ n.w
  b4 : n.p ≠ n.t
  b5 : n.s ≠ n.B
  b6 : n.s ≠ n.w
  b7 : n.s ≠ n.t
  b8 : n.B ≠ n.w
  b9 : n.B ≠ n.t
  bx : n.w ≠ n.t
theorem SdNe.mono {h h' : AHeap} {n : SdN} (hn : SdNe h n) (hh : h.next ≤ h'.next) : SdNe h' n := by
  obtain ⟨a1, a2, a3, a4, a5, b1, b2, b3, b4, b5, b6, b7, b8, b9, bx⟩ := hn
  exact ⟨by omega, by omega, by omega, by omega, by omega, b1, b2, b3, b4, b5, b6, b7, b8, b9, bx⟩
theorem fz_bytes {h h1 : AHeap} {b b' : Bs} (e : b = b') : Fz h h1 (.imm 1 (b.map encB)) (.imm 1 (b'.map encB)) := by
  subst e
  exact .clo _ (.imm _ _ fun y hy u hu => by
    obtain ⟨c, _, rfl⟩ := List.mem_map.1 hy
    exact clo_flat (by simp only [encB, List.mem_singleton] at hu; subst hu; rfl))
theorem SdAt.nes {h : AHeap} {n : SdN} {w : PwS} {x : SdS} (hd : SdAt h n w x) (hwf : ∀ id y, h.get id = some y → id < h.next) : SdNe h n := by
  obtain ⟨q1, q2, q3, q4, q5, q6⟩ := hd
  have key : ∀ {i j : Nat} {y z : AObj}, h.get i = some y → h.get j = some z → y ≠ z → i ≠ j := fun hi hj hne e => by
    subst e; rw [hi] at hj; exact hne (Option.some.inj hj)
  refine ⟨hwf _ _ q1, hwf _ _ q2, hwf _ _ q3, hwf _ _ q4, hwf _ _ q5, key q1 q2 ?_, key q1 q3 ?_, key q1 q4 ?_, key q1 q5 ?_, key q2 q3 ?_, key q2 q4 ?_, key q2 q5 ?_, key q3 q4 ?_, key q3 q5 ?_, q6⟩ <;> simp [SdS.obj, PwS.row]
/-- All of a device's objects anew. -/
def sdPut (n : SdN) (w : PwS) (x : SdS) (h : AHeap) : AHeap := ((((h.set n.p (some (.mem 4 [w.row]))).set n.B (some (.mem 1 (x.lasts.map encB)))).set n.w (some (.tail x.gen x.waits.length))).set n.t (some (.tail 0 x.trace.length))).set n.s (some (x.obj n))
theorem clo_encO (x : Wr) : ∀ v ∈ encO x, ∀ N, Clo N v := by
  intro v hv N
  simp only [encO, List.mem_cons, List.not_mem_nil, or_false] at hv
  rcases hv with rfl | rfl
  · exact .int _ _
  · exact .imm _ _ fun y hy u hu => by
      obtain ⟨c, _, rfl⟩ := List.mem_map.1 hy
      exact clo_flat (by simp only [encB, List.mem_singleton] at hu; subst hu; rfl)
theorem clo_ops {N : Nat → Prop} {l : List Wr} : ∀ c ∈ l.map encO, ∀ v ∈ c, Clo N v := fun c hc v hv => by
  obtain ⟨x, _, rfl⟩ := List.mem_map.1 hc
  exact clo_encO x v hv N
theorem ext_sd {h : AHeap} {n : SdN} {w : PwS} {x : SdS} (hd : SdAt h n w x) (w' : PwS) (x' : SdS) : Ext h (sdPut n w' x' h) := by
  obtain ⟨q1, q2, q3, q4, q5, q6⟩ := hd
  refine Ext.set (Ext.set (x := .tail _ _) (Ext.set (x := .tail _ _) (Ext.set (Ext.set Ext.refl (Nm.old q1) (clo_flat4 (PwS.flat _))) (Nm.old q3) ?_) (Nm.old q4) trivial) (Nm.old q5) trivial) (Nm.old q2) ?_
  · intro y hy v hv
    obtain ⟨c, _, rfl⟩ := List.mem_map.1 hy
    exact clo_flat (by simp only [encB, List.mem_singleton] at hv; subst hv; rfl)
  · intro y hy v hv
    simp only [List.mem_singleton] at hy
    subst hy
    simp only [List.mem_cons, List.not_mem_nil, or_false] at hv
    rcases hv with rfl | rfl | rfl | rfl
    · exact .ptr _ _ _ (Nm.old q1)
    · exact .ref _ _ _ (Nm.old q3)
    · exact .app _ _ _ _ (Nm.old q4) clo_ops
    · exact .app _ _ _ _ (Nm.old q5) clo_ops
theorem SdAt.put {h : AHeap} {n : SdN} (hn : SdNe h n) (w' : PwS) (x' : SdS) : SdAt (sdPut n w' x' h) n w' x' := by
  obtain ⟨a1, a2, a3, a4, a5, b1, b2, b3, b4, b5, b6, b7, b8, b9, bx⟩ := hn
  unfold sdPut
  exact ⟨gH, gH, gH, gH, gH, bx⟩
theorem get_sdPut {h : AHeap} {n : SdN} {w' : PwS} {x' : SdS} {id : Nat} (h1 : id ≠ n.p) (h2 : id ≠ n.s) (h3 : id ≠ n.B) (h4 : id ≠ n.w) (h5 : id ≠ n.t) : (sdPut n w' x' h).get id = h.get id :=
  get_set_neE h2 (get_set_neE h5 (get_set_neE h4 (get_set_neE h3 (get_set_neE h1 rfl))))
/-- What is so behind a call: nothing else is turned. -/
theorem keeps_sd {h h1 : AHeap} {n : SdN} {w' : PwS} {x' : SdS} (hk : KeepsB [n.p, n.s, n.B, n.w, n.t] h h1) (hd : SdAt h1 n w' x') : Keeps (sdPut n w' x' h) h1 := by
  refine ⟨hk.1, fun id hu => ?_⟩
  simp only [sdPut, get_set]
  split
  · rename_i e; rw [e, hd.ob]
  · split
    · rename_i e; rw [e, hd.tr]
    · split
      · rename_i e; rw [e, hd.wt]
      · split
        · rename_i e; rw [e, hd.bl]
        · split
          · rename_i e; rw [e, hd.pw]
          · rename_i e1 e2 e3 e4 e5
            exact hk.2 id hu (by simp [e1, e2, e3, e4, e5])
theorem ssd_Size_ae {h : AHeap} {n : SdN} {x : SdS} (hd : h.get n.s = some (x.obj n)) : AE Try.prog 26 [.ptr n.s 0 0] h (.int .i64 x.lasts.length) h := by
  refine AE.wf fun hwf => ?_
  have h0 := hwf _ _ hd
  refine AE.pureW is_ssd_SSD_Size (by simp) ?_
  unfold c_ssd_SSD_Size
  simp only [SdS.obj] at hd
  (refine go ?_)
  refine WW.ret (PureQ.finD ?_)
  exact clo_i rfl
theorem ssd_is_ae {h : AHeap} {n : SdN} {x : SdS} (hd : h.get n.s = some (x.obj n)) (hl : x.lasts.length ≤ 1000000) (off k : Int) (hk : k ≤ 9223372036854775807) : AE Try.prog 77 [.ptr n.s 0 0, .int .i64 off, .int .i64 k] h (.bool (inB x.lasts.length off k)) h := by
  refine AE.wf fun hwf => ?_
  have h0 := hwf _ _ hd
  refine AE.pureW is_ssd_SSD_is (by simp) ?_
  unfold c_ssd_SSD_is
  (refine go ?_)
  (apply WL.andB; exact rfl; exact rfl; exact rfl; exact BP.of; intro hz1)
  · (repeat first | (apply GW.goS; exact Stp.auto) | apply GW.nil | exact rfl)
  (refine go ?_)
  (apply WL.andB; exact rfl; exact rfl; exact rfl; exact BP.of; intro hz2)
  · (repeat first | (apply GW.goS; exact Stp.auto) | apply GW.nil | exact rfl)
    refine GW.call rfl (by first | exact True.intro | exact rfl) gSL (ssd_Size_ae hd) ?_
    (repeat first | (apply GW.goS; exact Stp.auto) | apply GW.nil | exact rfl)
  (refine go ?_)
  (apply WL.andB; exact rfl; exact rfl; exact rfl; exact BP.of; intro hz3)
  · simp only [Bool.and_eq_true, decide_eq_true_eq, ge_iff_le] at hz3
    (repeat first | (apply GW.goS; exact Stp.auto) | apply GW.nil | exact rfl)
    refine GW.call rfl (by first | exact True.intro | exact rfl) gSL (ssd_Size_ae hd) ?_
    (repeat first | (apply GW.goS; exact Stp.auto) | apply GW.nil | exact rfl)
  (refine go ?_)
  refine WW.ret (PureQ.finD ?_)
  exact fz_b rfl
theorem ssd_copied_ae (x : Wr) (hx : x.2.length ≤ 1000000) (h : AHeap) : AE Try.prog 78 [.agg (encO x)] h (.agg (encO x)) h := by
  refine AE.pureW is_ssd_copied (by simp) ?_
  unfold c_ssd_copied
  (repeat first | refine WL.go ?_ | refine WW.seq ?_ | refine WW.reg ?_ | refine WL.nil ?_ | refine WW.skip ?_ | refine WW.block ?_ | refine WW.exit ?_ | refine WW.condT rfl ?_ | refine WW.condF rfl ?_ | refine WL.gox ?_ | refine thenN ?_ | refine blkN ?_)
  refine WW.dregX [6] [] [h.next + 1] gN (by decide +kernel) ?_
  (refine go ?_)
  refine DW.callS rfl (by first | exact True.intro | exact rfl) gSL rfl (bytes_Clone_ae x.2 hx _) ?_
  (refine go ?_)
  refine WW.ret (PureQ.finD ?_)
  exact .clo _ (.agg _ fun v hv => clo_encO x v hv _)
/-- A write, if it is within and there is power. -/
def SdS.write (x : SdS) (o : Wr) (ok : Bool) : SdS := if ok then { x with waits := x.waits ++ [o], trace := x.trace ++ [o] } else x
theorem ssd_Write_ae {h : AHeap} {n : SdN} {w : PwS} {x : SdS} {k : Nat} (hd : SdAt h n w x) (hw : w.Ok k) (hk : k ≤ 1000000000) (hl : x.lasts.length ≤ 1000000) (h1 : x.waits.length ≤ 1000000) (h2 : x.trace.length ≤ 1000000) (off : Int) (b : Bs) (hb : b.length ≤ 1000000) :
    AE Try.prog 33 [.ptr n.s 0 0, .int .i64 off, .imm 1 (b.map encB)] h (.bool (inB x.lasts.length off b.length && w.can))
      (sdPut n (if inB x.lasts.length off b.length then w.spend else w) (x.write (off, b) (inB x.lasts.length off b.length && w.can)) h) := by
  refine AE.wf fun hwf => ?_
  obtain ⟨a1, a2, a3, a4, a5, b1, b2, b3, b4, b5, b6, b7, b8, b9, bx⟩ := hd.nes hwf
  have hd' := hd
  obtain ⟨q1, q2, q3, q4, q5, q6⟩ := hd
  refine AE.effW is_ssd_SSD_Write (by simp) (ext_sd hd' _ _) ?_
  unfold c_ssd_SSD_Write
  (refine go ?_)
  refine WL.call rfl (by first | exact True.intro | exact rfl) gSL (ssd_is_ae q2 hl off b.length (by omega)) ?_
  have q2' := q2
  simp only [SdS.obj] at q2'
  cases hin : inB x.lasts.length off b.length with
  | false =>
    (refine go ?_)
    refine WW.ret (EffQ.finD ?_ ?_)
    · exact keeps_sd KeepsB.refl (by rw [if_neg (by simp), Bool.false_and, SdS.write, if_neg (by simp)]; exact hd')
    · exact fz_b rfl
  | true =>
    (refine go ?_)
    refine WL.call rfl (by first | exact True.intro | exact rfl) gSL (power_Spend_ae q1 hw hk) ?_
    cases hcan : w.can with
    | false =>
      (refine go ?_)
      refine WW.ret (EffQ.finD ?_ ?_)
      · refine keeps_sd gKB ?_
        rw [if_pos rfl, Bool.and_false, SdS.write, if_neg (by simp)]
        exact ⟨gH, gH, gH, gH, gH, bx⟩
      · exact fz_b rfl
    | true =>
      (repeat first | refine WL.go ?_ | refine WW.seq ?_ | refine WW.reg ?_ | refine WL.nil ?_ | refine WW.skip ?_ | refine WW.block ?_ | refine WW.exit ?_ | refine WW.condT rfl ?_ | refine WW.condF rfl ?_ | refine WL.gox ?_ | refine thenN ?_ | refine blkN ?_)
      refine WW.dregX [8, 11] [] [n.w, n.s] gN (by decide +kernel) ?_
      (refine go ?_)
      refine DW.callS rfl (by first | exact True.intro | exact rfl) gSL rfl (ssd_copied_ae (off, b) hb _) ?_
      (refine go ?_)
      refine DW.callS rfl (by first | exact True.intro | exact rfl) gSL rfl (ssd_copied_ae (off, b) hb _) ?_
      (refine go ?_)
      refine WW.ret (EffQ.finD ?_ ?_)
      · refine keeps_sd gKB ?_
        rw [if_pos rfl, Bool.and_self, SdS.write, if_pos rfl]
        have ho : SdS.obj n { x with waits := x.waits ++ [(off, b)], trace := x.trace ++ [(off, b)] } = .mem 4 [[.ptr n.p 0 0, .ref n.B 0 x.lasts.length, .app n.w x.gen 2 (x.waits.map encO ++ [encO (off, b)]), .app n.t 0 2 (x.trace.map encO ++ [encO (off, b)])]] := by simp [SdS.obj]
        have e1 : (x.waits ++ [(off, b)]).length = x.waits.length + 1 := by simp
        have e2 : (x.trace ++ [(off, b)]).length = x.trace.length + 1 := by simp
        refine ⟨gH, ?_, gH, ?_, ?_, bx⟩
        · rw [ho]; exact gH
        · simp only [e1]; exact gH
        · simp only [e2]; exact gH
      · exact fz_b rfl
end Go.Proofs.Ytjehfcjfnmcjcaa


namespace Go.Proofs.Ytjehfcjfnmcjcaa
open Go Go.Abs

structure DkN where
  p : Nat
  d : Nat
  w : Nat
  t : Nat
def encBl (b : Bs) : AV := .imm 1 (b.map encB)
def dkRow (p w t : Nat) (x : DkS) : List AV := .ptr p 0 0 :: (x.lasts.map encBl ++ [.app w x.gen 2 (x.waits.map encO), .app t 0 2 (x.trace.map encO), .bool x.refuses])
structure DkAt (h : AHeap) (n : DkN) (w : PwS) (x : DkS) : Prop where
  pw : h.get n.p = some (.mem 4 [w.row])
  ob : h.get n.d = some (.mem 36 [dkRow n.p n.w n.t x])
  wt : h.get n.w = some (.tail x.gen x.waits.length)
  tr : h.get n.t = some (.tail 0 x.trace.length)
  ne : n.w ≠ n.t
  ll : x.lasts.length = 32
theorem dkAt_of {h : AHeap} {p d w t : Nat} {pw : PwS} {x : DkS} (h1 : h.get p = some (.mem 4 [pw.row])) (h2 : h.get d = some (.mem 36 [dkRow p w t x])) (h4 : h.get w = some (.tail x.gen x.waits.length)) (h5 : h.get t = some (.tail 0 x.trace.length)) (h6 : w ≠ t) (hl : x.lasts.length = 32) : DkAt h ⟨p, d, w, t⟩ pw x := ⟨h1, h2, h4, h5, h6, hl⟩
theorem putC_next {a z u : AV} {i : Nat} {r : List AV} : putC (a :: (List.replicate i z ++ u :: r)) (1 + i) [z] = a :: (List.replicate (i + 1) z ++ r) := by
  have h1 : List.take (i + 1) (a :: (List.replicate i z ++ u :: r)) = a :: List.replicate i z := by
    rw [List.take_succ_cons, List.take_left' (by simp)]
  have h2 : List.drop (i + 1 + 1) (a :: (List.replicate i z ++ u :: r)) = r := by
    rw [List.drop_succ_cons, show List.replicate i z ++ u :: r = (List.replicate i z ++ [u]) ++ r by simp, List.drop_left' (by simp)]
  rw [putC, Nat.add_comm 1 i, h1, List.length_singleton, h2, List.replicate_succ']
  simp
theorem put_set {h : AHeap} {n : Nat} {x y : AObj} : (h.put n x).set n (some y) = h.put n y :=
  hp_ext' (fun i => by simp only [get_put, get_set]; split <;> rfl) rfl fun _ => rfl
def zBl : AV := .imm 1 (List.replicate 32 [.int .u8 0])
def dk0 : DkS := ⟨List.replicate 32 (List.replicate 32 0), [], [], false, 0⟩
def dkNew (p nx : Nat) (h : AHeap) : AHeap := ((h.put nx (.mem 36 [dkRow p (nx + 1) (nx + 2) dk0])).put (nx + 1) (.tail 0 0)).put (nx + 2) (.tail 0 0)
set_option maxHeartbeats 1000000 in
theorem disk_New_ae {h : AHeap} {p nx : Nat} (hn : h.next = nx) (hp : p < nx) : AE Try.prog 70 [.ptr p 0 0] h (.ptr nx 0 0) (dkNew p nx h) := by
  subst hn
  refine AC.introW is_disk_New (by simp) ?_
  unfold c_disk_New
  (refine go ?_)
  refine WW.loopE (fun (i : Nat) => [(3, some (.ptr h.next 0 0)), (8, some (.int .i64 i))])
    (fun i h' => h' = h.put h.next (.mem 36 [.ptr p 0 0 :: (List.replicate i zBl ++ (List.replicate (32 - i) .nils ++ [.nils, .nils, .bool false]))]) ∧ i ≤ 32) (fun i => 32 - i) 0 gSUB ⟨rfl, by omega⟩ ?_
  rintro i h' ⟨rfl, c1⟩
  (refine go ?_)
  (refine WW.ifB rfl (fun hz1 => ?_) (fun hz1 => ?_))
  · have hi : i < 32 := by omega
    (repeat first | refine WW.seq ?_ | refine WW.reg ?_ | refine WL.nil ?_ | refine WW.skip ?_ | refine WW.block ?_ | refine thenN ?_ | refine blkN ?_); iterate 2 (refine WL.go ?_)
    (repeat first | refine WL.go ?_ | refine WW.seq ?_ | refine WW.reg ?_ | refine WL.nil ?_ | refine WW.skip ?_ | refine WW.block ?_ | refine WW.exit ?_ | refine WW.condT rfl ?_ | refine WW.condF rfl ?_ | refine WL.gox ?_ | refine thenN ?_ | refine blkN ?_)
    refine WW.dregX [6] [2] [h.next] gN (by decide +kernel) ?_
    iterate 2 (refine DW.go ?_)
    refine DW.fxF (fun h2 _ => FX.mkslI (n := 32) rfl rfl rfl rfl (by decide) (by first | exact True.intro | exact rfl)) rfl (fun _ _ _ => rfl) ?_
    iterate 3 (refine DW.go ?_)
    have hr : List.replicate (32 - i) AV.nils = AV.nils :: List.replicate (32 - (i + 1)) AV.nils := by
      rw [show 32 - i = (32 - (i + 1)) + 1 by omega, List.replicate_succ]
    rw [hr]
    refine DW.goW (hs := Stp.store1N (cs := .ptr p 0 0 :: (List.replicate (i + 1) zBl ++ (List.replicate (32 - (i + 1)) .nils ++ [.nils, .nils, .bool false]))) rfl rfl gH rfl (by simp; omega) rfl (by
      show putC _ (0 + 1 + i * 1) [zBl] = _
      rw [show 0 + 1 + i * 1 = 1 + i by omega, List.cons_append]
      exact putC_next) (by first | exact True.intro | exact rfl)) ?_ (fun hp => PhiW.setW (by simp) hp)
    refine DW.endL ?_
    rw [put_set]
    (refine go ?_)
    exact ⟨i + 1, gSUB, ⟨rfl, by omega⟩, by omega⟩
  · have hi : i = 32 := by omega
    subst hi
    (refine go ?_)
    refine WW.cvt (Cvt.adoptM 2 (id := h.next) (i := 0) (j := 33) gH rfl rfl gN) ?_
    refine WW.cvt (Cvt.adoptM 2 (id := h.next) (i := 0) (j := 34) gH rfl rfl gN) ?_
    refine WW.ret ⟨.inl rfl, _, gRES, rfl, hp_ext' (fun i => ?_) ?_ fun i => rfl⟩
    · have ho : dkRow p (h.next + 1) (h.next + 2) dk0 = ((AV.ptr p 0 0 :: (List.replicate 32 zBl ++ (List.replicate (32 - 32) .nils ++ [.nils, .nils, .bool false]))).set 33 (.app (h.next + 1) 0 2 [])).set 34 (.app (h.next + 1 + 1) 0 2 []) := rfl
      unfold dkNew
      rw [ho]
      simp only [get_put, get_set]
      (repeat' split) <;> first | rfl | omega
    · unfold dkNew; exact (gN : _ = h.next + 1 + 1 + 1).trans (gN : _ = h.next + 1 + 1 + 1).symm
end Go.Proofs.Ytjehfcjfnmcjcaa


namespace Go.Proofs.Ytjehfcjfnmcjcaa
open Go Go.Abs

/-- A leaf: kind, flag, number; epoch, slot, number of its nonce; tag. -/
structure Lf where
  k : Int
  d : Bool
  lba : Int
  e : Int
  sl : Int
  n : Int
  tg : Pr
  deriving DecidableEq
def lf0 : Lf := ⟨0, false, 0, 0, 0, 0, (0, 0)⟩
/-- What fits the types. -/
structure Lf.Wf (x : Lf) : Prop where
  k : -9223372036854775808 ≤ x.k ∧ x.k ≤ 9223372036854775807
  lba : -9223372036854775808 ≤ x.lba ∧ x.lba ≤ 9223372036854775807
  e : 0 ≤ x.e ∧ x.e < 4294967296
  sl : 0 ≤ x.sl ∧ x.sl < 4294967296
  n : 0 ≤ x.n ∧ x.n < 18446744073709551616
  t1 : 0 ≤ x.tg.1 ∧ x.tg.1 < 18446744073709551616
  t2 : 0 ≤ x.tg.2 ∧ x.tg.2 < 18446744073709551616
def lbaOk (n : Int) : Bool := decide (0 ≤ n) && decide (n < 32)
def leafIs (x : Lf) (i : Int) : Bool :=
  if i < 0 ∨ 16 ≤ i then false
  else if x.k = 0 then decide (x = lf0)
  else if x.k = 2 then lbaOk x.lba && decide (x = { lf0 with k := 2, d := true, lba := x.lba })
  else if x.k = 1 then lbaOk x.lba && decide (x.sl = i) && decide (0 < x.e)
  else false
/-- A leaf's bytes. -/
def leafB (x : Lf) : Bs := putB x.k 1 ++ (putB (if x.d then 1 else 0) 1 ++ (putB x.lba 2 ++ (putB x.e 4 ++ (putB x.n 8 ++ pairB x.tg))))
theorem leafB_len (x : Lf) : (leafB x).length = 32 := by
  simp only [leafB, List.length_append, pairB, putB_lenN _ 1 (by decide), putB_lenN _ 2 (by decide), putB_lenN _ 4 (by decide), putB_lenN _ 8 (by decide)]
/-- A leaf out of bytes, as far as they say one. -/
def leafD (b : Bs) (i : Int) : Lf := ⟨getB (b.take 1), getB ((b.drop 1).take 1) == 1, getB ((b.drop 2).take 2), getB ((b.drop 4).take 4), if getB (b.take 1) = 1 then i else 0, getB ((b.drop 8).take 8), pairF ((b.drop 16).take 16)⟩
/-- Does the row say a leaf at i? -/
def leafG (b : Bs) (i : Int) : Bool := decide (b.length = 32) && leafIs (leafD b i) i && (leafB (leafD b i) == b)
/-- A leaf, in bytes, and back. -/
theorem leafG_B (x : Lf) (hx : x.Wf) (i : Int) (hi : leafIs x i = true) : leafG (leafB x) i = true ∧ leafD (leafB x) i = x := by
  have hk : 0 ≤ x.k ∧ x.k < 256 ∧ 0 ≤ x.lba ∧ x.lba < 65536 ∧ x.sl = (if x.k = 1 then i else 0) := by
    have hl := hi
    rw [leafIs] at hl
    split at hl
    · cases hl
    · split at hl
      · have := of_decide_eq_true hl; subst this; simp [lf0]
      · split at hl
        · rename_i hk2
          simp [lbaOk] at hl
          have hsl : x.sl = 0 := by rw [hl.2]; rfl
          rw [if_neg (by omega)]; omega
        · split at hl
          · rename_i hk1
            simp [lbaOk] at hl; rw [if_pos hk1]; omega
          · cases hl
  have hd : leafD (leafB x) i = x := by
    have e1 : (leafB x).take 1 = putB x.k 1 := List.take_left' (putB_lenN _ 1 (by decide))
    have s1 : (leafB x).drop 1 = putB (if x.d then 1 else 0) 1 ++ (putB x.lba 2 ++ (putB x.e 4 ++ (putB x.n 8 ++ pairB x.tg))) := List.drop_left' (putB_lenN _ 1 (by decide))
    have s2 : (leafB x).drop 2 = putB x.lba 2 ++ (putB x.e 4 ++ (putB x.n 8 ++ pairB x.tg)) := by
      rw [show 2 = 1 + 1 from rfl, ← List.drop_drop, s1]; exact List.drop_left' (putB_lenN _ 1 (by decide))
    have s4 : (leafB x).drop 4 = putB x.e 4 ++ (putB x.n 8 ++ pairB x.tg) := by
      rw [show 4 = 2 + 2 from rfl, ← List.drop_drop, s2]; exact List.drop_left' (putB_lenN _ 2 (by decide))
    have s8 : (leafB x).drop 8 = putB x.n 8 ++ pairB x.tg := by
      rw [show 8 = 4 + 4 from rfl, ← List.drop_drop, s4]; exact List.drop_left' (putB_lenN _ 4 (by decide))
    have s16 : (leafB x).drop 16 = pairB x.tg := by
      rw [show 16 = 8 + 8 from rfl, ← List.drop_drop, s8]; exact List.drop_left' (putB_lenN _ 8 (by decide))
    have p16 : (pairB x.tg).take 16 = pairB x.tg := List.take_of_length_le (by simp [pairB])
    rw [leafD, e1, s1, s2, s4, s8, s16, List.take_left' (putB_lenN _ 1 (by decide)), List.take_left' (putB_lenN _ 2 (by decide)), List.take_left' (putB_lenN _ 4 (by decide)), List.take_left' (putB_lenN _ 8 (by decide)), p16, get_put1 _ ⟨hk.1, hk.2.1⟩, get_put2 _ ⟨hk.2.2.1, hk.2.2.2.1⟩, get_put4 _ hx.e, get_put8 _ hx.n, pairF_B _ hx.t1 hx.t2, ← hk.2.2.2.2]
    have hb : (getB (putB (if x.d then 1 else 0) 1) == 1) = x.d := by
      cases x.d
      · rw [show (if false = true then (1 : Int) else 0) = 0 from rfl, get_put1 0 (by decide)]; rfl
      · rw [show (if true = true then (1 : Int) else 0) = 1 from rfl, get_put1 1 (by decide)]; rfl
    rw [hb]
  refine ⟨?_, hd⟩
  rw [leafG, hd, hi, leafB_len]
  simp
end Go.Proofs.Ytjehfcjfnmcjcaa


namespace Go.Proofs.Ytjehfcjfnmcjcaa
open Go Go.Abs

def ofK (seed e : Int) : Pr := encF (seed, seed) (0, e)
def KsS.obj (p te : Nat) (k : KsS) : AObj := .mem 3 [[.ptr p 0 0, .int .u64 k.seed, .ref te 0 k.epochs.length]]
def KsS.cur (k : KsS) : Int := k.epochs.getLastD 0
structure KsAt (h : AHeap) (p k te : Nat) (s : KsS) : Prop where
  ob : h.get k = some (s.obj p te)
  tl : h.get te = some (.mem 1 (s.epochs.map encE))
  ne : s.epochs ≠ []
  sm : s.epochs.length ≤ 1000000
theorem clo_encE (e : Int) : ∀ v ∈ encE e, AV.flat v = true := by simp [encE, AV.flat]
theorem keys_New_ae {h : AHeap} {nx p : Nat} (hn : h.next = nx) (seed : Int) : AE Try.prog 72 [.int .u64 seed, .ptr p 0 0] h (.ptr (nx + 1) 0 0) ((h.put nx (.mem 1 [[.int .u32 1]])).put (nx + 1) ((⟨seed, [1]⟩ : KsS).obj p nx)) := by
  subst hn
  refine AC.introW is_keys_New (by simp) ?_
  unfold c_keys_New
  (repeat first | refine WW.seq ?_ | refine WW.reg ?_ | refine WL.nil ?_ | refine WW.skip ?_ | refine WW.block ?_ | refine thenN ?_ | refine blkN ?_); iterate 1 (refine WL.go ?_)
  (repeat first | refine WW.seq ?_ | refine WW.reg ?_ | refine WL.nil ?_ | refine WW.skip ?_ | refine WW.block ?_ | refine thenN ?_ | refine blkN ?_); iterate 2 (refine WL.go ?_)
  refine WL.fx1 (FX.bslN (nx := h.next) rfl rfl rfl rfl (by first | exact True.intro | exact rfl)) ?_
  (refine go ?_)
  exact WW.ret ⟨.inl rfl, _, gRES, rfl, rfl⟩
theorem keys_Current_ae {h : AHeap} {p k te : Nat} {s : KsS} (hk : KsAt h p k te s) : AE Try.prog 73 [.ptr k 0 0] h (.int .u32 s.cur) h := by
  obtain ⟨q1, q2, q3, q4⟩ := hk
  refine AE.wf fun hwf => ?_
  have h0 := hwf _ _ q1
  have hl : 0 < s.epochs.length := List.length_pos_iff.2 q3
  refine AE.pureW is_keys_Keys_Current (by simp) ?_
  unfold c_keys_Keys_Current
  simp only [KsS.obj] at q1
  (repeat first | refine WL.go ?_ | refine WW.seq ?_ | refine WW.reg ?_ | refine WL.nil ?_ | refine WW.skip ?_ | refine WW.block ?_ | refine WW.exit ?_ | refine WW.condT rfl ?_ | refine WW.condF rfl ?_ | refine WL.gox ?_ | refine thenN ?_ | refine blkN ?_)
  refine WW.dregX [] [] [] gN (by decide +kernel) ?_
  (refine go ?_)
  refine WW.ret (PureQ.finD ?_)
  refine clo_i ?_
  rw [KsS.cur, List.getLastD_eq_getLast?, List.getLast?_eq_getElem?, List.getElem?_eq_getElem (by omega)]
  simp only [Option.getD_some]
  congr 1
  omega
theorem slices_CloneE_ae {h : AHeap} {te : Nat} (l : List Int) (hl : l.length ≤ 1000000) (hne : l ≠ []) (ht : h.get te = some (.mem 1 (l.map encE))) : AE Try.prog 142 [.ref te 0 l.length] h (.imm 1 (l.map encE)) h := by
  refine AE.wf fun hwf => ?_
  have h0 := hwf _ _ ht
  refine AE.pureW is_slices_Cloneuint32_uint32 (by simp) ?_
  unfold c_slices_Cloneuint32_uint32
  (repeat first | refine WW.seq ?_ | refine WW.reg ?_ | refine WL.nil ?_ | refine WW.skip ?_ | refine WW.block ?_ | refine thenN ?_ | refine blkN ?_); iterate 1 (refine WL.go ?_)
  (repeat first | refine WW.seq ?_ | refine WW.reg ?_ | refine WL.nil ?_ | refine WW.skip ?_ | refine WW.block ?_ | refine thenN ?_ | refine blkN ?_); iterate 1 (refine WL.go ?_)
  refine WL.go (hs := Stp.isnil (t := false) rfl rfl (by first | exact True.intro | exact rfl)) ?_
  (repeat first | refine WW.seq ?_ | refine WW.reg ?_ | refine WL.nil ?_ | refine WW.skip ?_ | refine WW.block ?_ | refine thenN ?_ | refine blkN ?_)
  refine WW.condF rfl ?_
  (refine go ?_)
  refine WW.ret (PureQ.finD ?_)
  rw [List.drop_zero, List.take_of_length_le (by simp)]
  exact fz_app rfl (flatC_map clo_encE)
theorem slices_Contains_ae (l : List Int) (hl : l.length ≤ 1000000) (v : Int) (h : AHeap) : AE Try.prog 108 [.imm 1 (l.map encE), .int .u32 v] h (.bool (decide (v ∈ l))) h := by
  have hix : AE Try.prog 141 [.imm 1 (l.map encE), .int .u32 v] h (.int .i64 (if v ∈ l then (l.idxOf v : Int) else -1)) h := by
    refine AE.pureW is_slices_Indexuint32_uint32 (by simp) ?_
    unfold c_slices_Indexuint32_uint32
    (refine go ?_)
    refine WW.loopE (fun (i : Nat) => [(0, some (.imm 1 (l.map encE))), (1, some (.int .u32 v)), (7, some (.int .i64 l.length)), (8, some (.int .i64 i))])
      (fun i h' => h' = h ∧ i ≤ l.length ∧ v ∉ l.take i) (fun i => l.length - i) 0 gSUB ⟨rfl, Nat.zero_le _, by simp⟩ ?_
    rintro i h' ⟨rfl, c1, c2⟩
    (refine go ?_)
    (refine WW.ifB rfl (fun hz1 => ?_) (fun hz1 => ?_))
    · have hi : i < l.length := by omega
      (refine go ?_)
      (refine WW.ifB rfl (fun hz2 => ?_) (fun hz2 => ?_))
      · (refine go ?_)
        refine WW.ret (PureQ.finD ?_)
        refine clo_i ?_
        have hm : v ∈ l := by rw [hz2]; exact List.getElem_mem hi
        rw [if_pos hm]
        have h1 : l = l.take i ++ v :: l.drop (i + 1) := by
          conv => lhs; rw [← List.take_append_drop i l, List.drop_eq_getElem_cons hi, ← hz2]
        have h2 : l.idxOf v = i := by
          rw [h1, List.idxOf_append, if_neg c2]
          simp; omega
        rw [h2]
      · (refine go ?_)
        refine ⟨i + 1, gSUB, ⟨rfl, by omega, ?_⟩, by omega⟩
        rw [List.take_succ_eq_append_getElem hi, List.mem_append, List.mem_singleton]
        rintro (h3 | h3)
        · exact c2 h3
        · exact hz2 h3
    · (refine go ?_)
      refine WW.ret (PureQ.finD ?_)
      refine clo_i ?_
      rw [List.take_of_length_le (by omega)] at c2
      rw [if_neg c2]
  refine AE.pureW is_slices_Containsuint32_uint32 (by simp) ?_
  unfold c_slices_Containsuint32_uint32
  (refine go ?_)
  refine WL.call rfl (by first | exact True.intro | exact rfl) gSL (hix) ?_
  (refine go ?_)
  refine WW.ret (PureQ.finD ?_)
  refine fz_b ?_
  split <;> simp_all <;> omega
theorem keys_Epochs_ae {h : AHeap} {p k te : Nat} {s : KsS} (hk : KsAt h p k te s) : AE Try.prog 109 [.ptr k 0 0] h (.imm 1 (s.epochs.map encE)) h := by
  obtain ⟨q1, q2, q3, q4⟩ := hk
  refine AE.wf fun hwf => ?_
  have h0 := hwf _ _ q1
  refine AE.pureW is_keys_Keys_Epochs (by simp) ?_
  unfold c_keys_Keys_Epochs
  simp only [KsS.obj] at q1
  (refine go ?_)
  refine WL.call rfl (by first | exact True.intro | exact rfl) gSL (slices_CloneE_ae s.epochs q4 q3 q2) ?_
  (refine go ?_)
  refine WW.ret (PureQ.finD ?_)
  exact .clo _ (.imm _ _ fun x hx v hv => by
    obtain ⟨i, _, rfl⟩ := List.mem_map.1 hx
    exact clo_flat (clo_encE i v hv))
theorem keys_Of_ae (seed e : Int) (he : 0 ≤ e ∧ e < 4294967296) (h : AHeap) : AE Try.prog 110 [.int .u64 seed, .int .u32 e] h (.agg (encP (ofK seed e))) h := by
  refine AE.pureW is_keys_Of (by simp) ?_
  unfold c_keys_Of
  (refine go ?_)
  refine WL.call rfl (by first | exact True.intro | exact rfl) gSL (speck_Encrypt_ae (seed, seed) (0, e) _) ?_
  (refine go ?_)
  refine WW.ret (PureQ.finD ?_)
  exact fz_agg rfl (flatP _)
theorem keys_Key_ae {h : AHeap} {p k te : Nat} {s : KsS} (hk : KsAt h p k te s) (e : Int) (he : 0 ≤ e ∧ e < 4294967296) : AE Try.prog 74 [.ptr k 0 0, .int .u32 e] h (.tup [.agg (encP (if e ∈ s.epochs then ofK s.seed e else (0, 0))), .bool (decide (e ∈ s.epochs))]) h := by
  have hk' := hk
  obtain ⟨q1, q2, q3, q4⟩ := hk
  refine AE.wf fun hwf => ?_
  have h0 := hwf _ _ q1
  have h1 := hwf _ _ q2
  refine AE.pureW is_keys_Keys_Key (by simp) ?_
  unfold c_keys_Keys_Key
  simp only [KsS.obj] at q1
  (refine go ?_)
  refine WL.call rfl (by first | exact True.intro | exact rfl) gSL (keys_Epochs_ae ⟨(get_put_neE (by omega) hk'.ob), (get_put_neE (by omega) q2), q3, q4⟩) ?_
  (refine go ?_)
  refine WL.call rfl (by first | exact True.intro | exact rfl) gSL (slices_Contains_ae s.epochs q4 e _) ?_
  (refine go ?_)
  (refine WW.ifB rfl (fun hz1 => ?_) (fun hz1 => ?_))
  · (refine go ?_)
    refine WW.ret (PureQ.finD ?_)
    exact Fz.tup2 (fz_agg (by simp [hz1, encP, putC, AV.cs]) (by simp [putC, AV.cs, AV.flat, encP])) (fz_b (by simp [hz1]))
  · have hm : e ∈ s.epochs := by simpa using hz1
    (refine go ?_)
    refine WL.call rfl (by first | exact True.intro | exact rfl) gSL (keys_Of_ae s.seed e he _) ?_
    (refine go ?_)
    refine WW.ret (PureQ.finD ?_)
    exact Fz.tup2 (fz_agg (by simp [hm, encP, putC, AV.cs]) (by simp [putC, AV.cs, AV.flat, encP])) (fz_b (by simp [hm]))
def KsS.add (k : KsS) (ok : Bool) : KsS := if ok then { k with epochs := k.epochs ++ [k.cur + 1] } else k
end Go.Proofs.Ytjehfcjfnmcjcaa


namespace Go.Proofs.Ytjehfcjfnmcjcaa
open Go Go.Abs


def isG (n : Int) : Bool := n == 4 || n == 8 || n == 16



theorem geom_Is_ae (n : Int) (h : AHeap) : AE Try.prog 64 [.int .i64 n] h (.bool (isG n)) h := by
  refine AE.pureW is_geom_Is (by simp) ?_
  unfold c_geom_Is
  (refine go ?_)
  (refine WL.spB rfl (fun hz => ?_) (fun hz => ?_)) <;> (refine go ?_)
  · refine WW.ret (PureQ.finD ?_)
    exact fz_b (by simp [isG, hz])
  (refine WL.spB rfl (fun hz8 => ?_) (fun hz8 => ?_)) <;> (refine go ?_)
  all_goals
    refine WW.ret (PureQ.finD ?_)
    exact fz_b (by simp [isG, hz, hz8])

theorem xor1_lt (k n : Nat) (hk : k < 2 * n) : k ^^^ 1 < 2 * n := by
  have : (k ^^^ 1) / 2 = k / 2 := by
    rw [Nat.xor_div_two]; simp
  omega

/-- The neighbours from node k up. -/
def upL (l : List Pr) (k : Nat) : List Pr := if h : k ≤ 1 then [] else l.getD (k ^^^ 1) (0, 0) :: upL l (k / 2)
termination_by k
decreasing_by omega
theorem upL_one {l : List Pr} {k : Nat} (h : k ≤ 1) : upL l k = [] := by rw [upL]; simp [h]
theorem upL_more {l : List Pr} {k : Nat} (h : 1 < k) : upL l k = l.getD (k ^^^ 1) (0, 0) :: upL l (k / 2) := by rw [upL]; simp [show ¬ k ≤ 1 by omega]
end Go.Proofs.Ytjehfcjfnmcjcaa


namespace Go.Proofs.Ytjehfcjfnmcjcaa
open Go Go.Abs

theorem isG_cases {n : Int} (h : isG n = true) : n = 4 ∨ n = 8 ∨ n = 16 := by simp [isG] at h; omega
def sizeG (n : Int) : Int := if isG n then n * 160 + 120 else 0
def recG (n i : Int) : Int := if isG n && decide (0 ≤ i) && decide (i < 2) then n * 160 + i * 60 else -1
theorem geom_among_ae (n i m : Int) (h : AHeap) : AE Try.prog 118 [.agg [.int .i64 n], .int .i64 i, .int .i64 m] h (.bool (isG n && decide (0 ≤ i) && decide (i < m))) h := by
  refine AE.pureW is_geom_Geom_among (by simp) ?_
  unfold c_geom_Geom_among
  (refine go ?_)
  refine WL.call rfl (by first | exact True.intro | exact rfl) gSL (geom_Is_ae n _) ?_
  (refine go ?_)
  (apply WL.andB; exact rfl; exact rfl; exact rfl; exact BP.of; intro hz1)
  · (repeat first | (apply GW.goS; exact Stp.auto) | apply GW.nil | exact rfl)
  (refine go ?_)
  (apply WL.andB; exact rfl; exact rfl; exact rfl; exact BP.of; intro hz2)
  · (repeat first | (apply GW.goS; exact Stp.auto) | apply GW.nil | exact rfl)
  (refine go ?_)
  refine WW.ret (PureQ.finD ?_)
  exact fz_b (by simp)
theorem geom_area_ae (n : Int) (hn : isG n = true) (h : AHeap) : AE Try.prog 119 [.agg [.int .i64 n]] h (.int .i64 (n * 64)) h := by
  have := isG_cases hn
  refine AE.pureW is_geom_Geom_area (by simp) ?_
  unfold c_geom_Geom_area
  (refine go ?_)
  refine WW.ret (PureQ.finD ?_)
  exact clo_i rfl
theorem geom_Rec_ae (n i : Int) (h : AHeap) : AE Try.prog 107 [.agg [.int .i64 n], .int .i64 i] h (.int .i64 (recG n i)) h := by
  refine AE.pureW is_geom_Geom_Rec (by simp) ?_
  unfold c_geom_Geom_Rec
  (refine go ?_)
  refine WL.call rfl (by first | exact True.intro | exact rfl) gSL (geom_among_ae n i 2 _) ?_
  cases hc : (isG n && decide (0 ≤ i) && decide (i < 2)) with
  | false =>
    (refine go ?_)
    refine WW.ret (PureQ.finD ?_)
    exact clo_i (by rw [recG, hc]; rfl)
  | true =>
    have hb : isG n = true ∧ 0 ≤ i ∧ i < 2 := by simpa [and_assoc] using hc
    obtain ⟨hg, i0, i1⟩ := hb
    have := isG_cases hg
    (repeat first | refine WL.go ?_ | refine WW.seq ?_ | refine WW.reg ?_ | refine WL.nil ?_ | refine WW.skip ?_ | refine WW.block ?_ | refine WW.exit ?_ | refine WW.condT rfl ?_ | refine WW.condF rfl ?_ | refine WL.gox ?_ | refine thenN ?_ | refine blkN ?_)
    refine WW.dregX [] [] [] gN (by decide +kernel) ?_
    (refine go ?_)
    refine DW.callS rfl (by first | exact True.intro | exact rfl) gSL rfl (geom_area_ae n hg _) ?_
    (refine go ?_)
    refine WW.ret (PureQ.finD ?_)
    exact clo_i (by rw [recG, hc, if_pos rfl]; omega)
theorem geom_Size_ae (n : Int) (h : AHeap) : AE Try.prog 69 [.agg [.int .i64 n]] h (.int .i64 (sizeG n)) h := by
  refine AE.pureW is_geom_Geom_Size (by simp) ?_
  unfold c_geom_Geom_Size
  (refine go ?_)
  refine WL.call rfl (by first | exact True.intro | exact rfl) gSL (geom_Is_ae n _) ?_
  cases hg : isG n with
  | false =>
    (refine go ?_)
    refine WW.ret (PureQ.finD ?_)
    exact clo_i (by rw [sizeG, hg]; rfl)
  | true =>
    have := isG_cases hg
    have hr : recG n 1 = n * 160 + 60 := by rw [recG, hg]; simp
    (refine go ?_)
    refine WL.call rfl (by first | exact True.intro | exact rfl) gSL (geom_Rec_ae n 1 _) ?_
    rw [hr]
    (refine go ?_)
    refine WW.ret (PureQ.finD ?_)
    exact clo_i (by rw [sizeG, hg, if_pos rfl]; omega)
end Go.Proofs.Ytjehfcjfnmcjcaa


namespace Go.Proofs.Ytjehfcjfnmcjcaa
open Go Go.Abs

/-- A root: count, epoch, slots, hash. -/
structure Rt where
  c : Int
  e : Int
  n : Int
  g : Pr
  deriving DecidableEq
def rt0 : Rt := ⟨0, 0, 0, (0, 0)⟩
def encRt (r : Rt) : List AV := [.int .u64 r.c, .int .u32 r.e, .int .i64 r.n, .int .u64 r.g.1, .int .u64 r.g.2]
structure Rt.Wf (r : Rt) : Prop where
  c : 0 ≤ r.c ∧ r.c < 18446744073709551616
  e : 0 ≤ r.e ∧ r.e < 4294967296
  g1 : 0 ≤ r.g.1 ∧ r.g.1 < 18446744073709551616
  g2 : 0 ≤ r.g.2 ∧ r.g.2 < 18446744073709551616
def rootB (r : Rt) : Bs := putB r.c 8 ++ (putB r.e 4 ++ (putB r.n 4 ++ pairB r.g))
theorem rootB_len (r : Rt) : (rootB r).length = 32 := by
  simp only [rootB, List.length_append, pairB, putB_lenN _ 4 (by decide), putB_lenN _ 8 (by decide)]
theorem root_isSlots_ae (n : Int) (h : AHeap) : AE Try.prog 123 [.int .i64 n] h (.bool (isG n)) h := by
  refine AE.pureW is_root_isSlots (by simp) ?_
  unfold c_root_isSlots
  (refine go ?_)
  (apply WL.orB; exact rfl; exact rfl; exact rfl; exact BP.of; intro hz1)
  · (repeat first | (apply GW.goS; exact Stp.auto) | apply GW.nil | exact rfl)
  (refine go ?_)
  (apply WL.orB; exact rfl; exact rfl; exact rfl; exact BP.of; intro hz2)
  · (repeat first | (apply GW.goS; exact Stp.auto) | apply GW.nil | exact rfl)
  (refine go ?_)
  refine WW.ret (PureQ.finD ?_)
  exact fz_b rfl
theorem root_Put_ae (r : Rt) (hr : r.Wf) (h : AHeap) : AE Try.prog 92 [.agg (encRt r)] h (.tup [.imm 1 ((if isG r.n then rootB r else []).map encB), .bool (isG r.n)]) h := by
  obtain ⟨x1, x2, x3, x4⟩ := hr
  refine AE.pureW is_root_Put (by simp) ?_
  unfold c_root_Put
  (refine go ?_)
  refine WL.call rfl (by first | exact True.intro | exact rfl) gSL (root_isSlots_ae r.n _) ?_
  cases hl : isG r.n with
  | false =>
    (refine go ?_)
    refine WW.ret (PureQ.finD ?_)
    exact Fz.tup2 (.nil _) (fz_b rfl)
  | true =>
    have hg := isG_cases hl
    (repeat first | refine WL.go ?_ | refine WW.seq ?_ | refine WW.reg ?_ | refine WL.nil ?_ | refine WW.skip ?_ | refine WW.block ?_ | refine WW.exit ?_ | refine WW.condT rfl ?_ | refine WW.condF rfl ?_ | refine WL.gox ?_ | refine thenN ?_ | refine blkN ?_)
    refine WW.dregX [] [] [] gN (by decide +kernel) ?_
    (refine go ?_)
    refine DW.callS rfl (by first | exact True.intro | exact rfl) gSL rfl (wire_Put_ae r.c 8 _ (by decide)) ?_
    (refine go ?_)
    refine DW.callS rfl (by first | exact True.intro | exact rfl) gSL rfl (wire_Put_ae r.e 4 _ (by decide)) ?_
    (refine go ?_)
    refine DW.callS rfl (by first | exact True.intro | exact rfl) gSL rfl (wire_Put_ae r.n 4 _ (by decide)) ?_
    (refine go ?_)
    refine DW.callS rfl (by first | exact True.intro | exact rfl) gSL rfl (wire_Bytes_ae r.g _) ?_
    (refine go ?_)
    have hfl : ([putB r.c 8, putB r.e 4, putB r.n 4, pairB r.g] : List Bs).flatten = rootB r := by simp [rootB]
    refine DW.callS rfl (by first | exact True.intro | exact rfl) gSL rfl (slices_Concat_ae [putB r.c 8, putB r.e 4, putB r.n 4, pairB r.g] (by simp) (by rw [hfl, rootB_len]; decide) _) ?_
    (refine go ?_)
    refine WW.ret (PureQ.finD ?_)
    exact Fz.tup2 (fz_bytes (by rw [hfl]; rfl)) (fz_b rfl)
def rootD (b : Bs) : Rt := ⟨getB (b.take 8), getB ((b.drop 8).take 4), getB ((b.drop 12).take 4), pairF ((b.drop 16).take 16)⟩
def rootG (b : Bs) : Bool := decide (b.length = 32) && isG (getB ((b.drop 12).take 4))
theorem root_Get_ae (b : Bs) (hb : b.length ≤ 100000) (h : AHeap) : AE Try.prog 129 [.imm 1 (b.map encB)] h (.tup [.agg (encRt (if rootG b then rootD b else rt0)), .bool (rootG b)]) h := by
  refine AE.pureW is_root_Get (by simp) ?_
  unfold c_root_Get
  (refine go ?_)
  refine WL.call rfl (by first | exact True.intro | exact rfl) gSL (wire_Cut_ae b hb [8, 4, 4, 16] (by simp) (by simp) _) ?_
  by_cases hl : b.length = 32
  rotate_left
  · have hl' : ¬ b.length = ([8, 4, 4, 16] : List Nat).sum := hl
    have hg : rootG b = false := by simp [rootG, hl]
    rw [decide_eq_false hl', hg]
    (refine go ?_)
    refine WW.ret (PureQ.finD ?_)
    exact Fz.tup2 (fz_agg rfl (by simp [AV.flat])) (fz_b rfl)
  have hl' : b.length = ([8, 4, 4, 16] : List Nat).sum := hl
  rw [decide_eq_true hl', if_pos hl']
  simp only [cutL, List.drop_drop, Nat.reduceAdd]
  have r0 : 0 ≤ getB (b.take 8) ∧ getB (b.take 8) < 18446744073709551616 := getB_rng _ 8 (by simp; omega) (by decide)
  have r1 : 0 ≤ getB ((b.drop 8).take 4) ∧ getB ((b.drop 8).take 4) < 4294967296 := getB_rng _ 4 (by simp; omega) (by decide)
  have r2 : 0 ≤ getB ((b.drop 12).take 4) ∧ getB ((b.drop 12).take 4) < 4294967296 := getB_rng _ 4 (by simp; omega) (by decide)
  (refine go ?_)
  refine WL.call rfl (by first | exact True.intro | exact rfl) gSL (wire_Get_ae (b.take 8) (by simp; omega) _) ?_
  (refine go ?_)
  refine WL.call rfl (by first | exact True.intro | exact rfl) gSL (wire_Get_ae ((b.drop 8).take 4) (by simp; omega) _) ?_
  (refine go ?_)
  refine WL.call rfl (by first | exact True.intro | exact rfl) gSL (wire_Get_ae ((b.drop 12).take 4) (by simp; omega) _) ?_
  (refine go ?_)
  refine WL.call rfl (by first | exact True.intro | exact rfl) gSL (wire_Pair_ae ((b.drop 16).take 16) (by simp; omega) _) ?_
  (refine go ?_)
  refine WL.call rfl (by first | exact True.intro | exact rfl) gSL (root_isSlots_ae (getB ((b.drop 12).take 4)) _) ?_
  have hg : rootG b = isG (getB ((b.drop 12).take 4)) := by rw [rootG, decide_eq_true hl, Bool.true_and]
  rw [hg]
  cases hIs : isG (getB ((b.drop 12).take 4)) with
  | false =>
    (refine go ?_)
    refine WW.ret (PureQ.finD ?_)
    exact Fz.tup2 (fz_agg rfl (by simp [AV.flat])) (fz_b rfl)
  | true =>
    (refine go ?_)
    refine WW.ret (PureQ.finD ?_)
    exact Fz.tup2 (fz_agg rfl (by simp [AV.flat, encP])) (fz_b rfl)
/-- A root, in bytes, and back. -/
theorem rootG_B (r : Rt) (hr : r.Wf) (hg : isG r.n = true) : rootG (rootB r) = true ∧ rootD (rootB r) = r := by
  have hn := isG_cases hg
  have e1 : (rootB r).take 8 = putB r.c 8 := List.take_left' (putB_lenN _ 8 (by decide))
  have s8 : (rootB r).drop 8 = putB r.e 4 ++ (putB r.n 4 ++ pairB r.g) := List.drop_left' (putB_lenN _ 8 (by decide))
  have s12 : (rootB r).drop 12 = putB r.n 4 ++ pairB r.g := by
    rw [show 12 = 8 + 4 from rfl, ← List.drop_drop, s8]; exact List.drop_left' (putB_lenN _ 4 (by decide))
  have s16 : (rootB r).drop 16 = pairB r.g := by
    rw [show 16 = 12 + 4 from rfl, ← List.drop_drop, s12]; exact List.drop_left' (putB_lenN _ 4 (by decide))
  have p16 : (pairB r.g).take 16 = pairB r.g := List.take_of_length_le (by simp [pairB])
  have en : getB (((rootB r).drop 12).take 4) = r.n := by rw [s12, List.take_left' (putB_lenN _ 4 (by decide)), get_put4 _ (by omega)]
  refine ⟨by rw [rootG, en, hg, rootB_len]; rfl, ?_⟩
  rw [rootD, en, e1, s8, s16, List.take_left' (putB_lenN _ 4 (by decide)), p16, get_put8 _ hr.c, get_put4 _ hr.e, pairF_B _ hr.g1 hr.g2]

/-- A record's bytes. -/
def recB (e v : Int) (b : Bs) (tg : Pr) : Bs := putB e 4 ++ (putB v 8 ++ (b ++ pairB tg))
theorem recB_len (e v : Int) (b : Bs) (tg : Pr) (hb : b.length = 32) : (recB e v b tg).length = 60 := by
  simp only [recB, List.length_append, pairB, putB_lenN _ 4 (by decide), putB_lenN _ 8 (by decide), hb]
theorem root_PutRec_ae (e v : Int) (he : 0 ≤ e ∧ e < 4294967296) (hv : 0 ≤ v ∧ v < 18446744073709551616) (b : Bs) (hb : b.length = 32) (tg : Pr) (h : AHeap) :
    AE Try.prog 94 [.agg (encN (e, 65535, v)), .agg (encS b tg)] h (.tup [.imm 1 ((recB e v b tg).map encB), .bool true]) h := by
  refine AE.pureW is_root_PutRec (by simp) ?_
  unfold c_root_PutRec
  (refine go ?_)
  (apply WL.orB; exact rfl; exact rfl; exact rfl; exact BP.of; intro hz1)
  · (repeat first | (apply GW.goS; exact Stp.auto) | apply GW.nil | exact rfl)
  (refine go ?_)
  (refine WW.ifB rfl (fun hz2 => ?_) (fun hz2 => ?_))
  · exfalso; simp [hb] at hz2
  (repeat first | refine WL.go ?_ | refine WW.seq ?_ | refine WW.reg ?_ | refine WL.nil ?_ | refine WW.skip ?_ | refine WW.block ?_ | refine WW.exit ?_ | refine WW.condT rfl ?_ | refine WW.condF rfl ?_ | refine WL.gox ?_ | refine thenN ?_ | refine blkN ?_)
  refine WW.dregX [] [] [] gN (by decide +kernel) ?_
  (refine go ?_)
  refine DW.callS rfl (by first | exact True.intro | exact rfl) gSL rfl (wire_Put_ae e 4 _ (by decide)) ?_
  (refine go ?_)
  refine DW.callS rfl (by first | exact True.intro | exact rfl) gSL rfl (wire_Put_ae v 8 _ (by decide)) ?_
  (refine go ?_)
  refine DW.callS rfl (by first | exact True.intro | exact rfl) gSL rfl (wire_Bytes_ae tg _) ?_
  (refine go ?_)
  have hfl : ([putB e 4, putB v 8, b, pairB tg] : List Bs).flatten = recB e v b tg := by simp [recB]
  refine DW.callS rfl (by first | exact True.intro | exact rfl) gSL rfl (slices_Concat_ae [putB e 4, putB v 8, b, pairB tg] (by simp) (by rw [hfl, recB_len _ _ _ _ hb]; decide) _) ?_
  (refine go ?_)
  refine WW.ret (PureQ.finD ?_)
  exact Fz.tup2 (fz_bytes (by rw [hfl])) (fz_b rfl)
/-- A record out of bytes. -/
structure Rec where
  e : Int
  v : Int
  b : Bs
  tg : Pr
def recD (r : Bs) : Rec := ⟨getB (r.take 4), getB ((r.drop 4).take 8), (r.drop 12).take 32, pairF ((r.drop 44).take 16)⟩
theorem root_GetRec_ae (r : Bs) (hr : r.length = 60) (h : AHeap) : AE Try.prog 125 [.imm 1 (r.map encB)] h
    (.tup [.agg (encN ((recD r).e, 65535, (recD r).v)), .agg (encS (recD r).b (recD r).tg), .bool true]) h := by
  refine AE.pureW is_root_GetRec (by simp) ?_
  unfold c_root_GetRec
  (refine go ?_)
  refine WL.call rfl (by first | exact True.intro | exact rfl) gSL (wire_Cut_ae r (by omega) [4, 8, 32, 16] (by simp) (by simp) _) ?_
  have hl' : r.length = ([4, 8, 32, 16] : List Nat).sum := hr
  rw [decide_eq_true hl', if_pos hl']
  simp only [cutL, List.drop_drop, Nat.reduceAdd]
  have r0 : 0 ≤ getB (r.take 4) ∧ getB (r.take 4) < 4294967296 := getB_rng _ 4 (by simp; omega) (by decide)
  (refine go ?_)
  refine WL.call rfl (by first | exact True.intro | exact rfl) gSL (wire_Get_ae (r.take 4) (by simp; omega) _) ?_
  (refine go ?_)
  refine WL.call rfl (by first | exact True.intro | exact rfl) gSL (wire_Get_ae ((r.drop 4).take 8) (by simp; omega) _) ?_
  (refine go ?_)
  refine WL.call rfl (by first | exact True.intro | exact rfl) gSL (wire_Pair_ae ((r.drop 44).take 16) (by simp; omega) _) ?_
  (refine go ?_)
  (repeat first | refine WL.go ?_ | refine WW.seq ?_ | refine WW.reg ?_ | refine WL.nil ?_ | refine WW.skip ?_ | refine WW.block ?_ | refine WW.exit ?_ | refine WW.condT rfl ?_ | refine WW.condF rfl ?_ | refine WL.gox ?_ | refine thenN ?_ | refine blkN ?_)
  refine WW.dregX [9, 10] [5, 6, 7] [h.next, h.next + 1] gN (by decide +kernel) ?_
  (repeat first | refine DW.go ?_ | refine DW.goWP ?_ | refine DW.goF ?_ | refine DW.endL ?_ | refine thenN ?_ | refine blkN ?_)
  (refine go ?_)
  refine WW.ret (PureQ.finD ?_)
  exact Fz.tup3 (fz_agg rfl (by simp [AV.flat])) (.clo _ (.agg _ (clo_encS _ _))) (fz_b rfl)
end Go.Proofs.Ytjehfcjfnmcjcaa


namespace Go.Proofs.Ytjehfcjfnmcjcaa
open Go Go.Abs

def mkO (boot : Int) (k : Nat) : AObj := .mem 2 [[.int .u64 boot, .int .i64 k]]
theorem nonce_New_ae {h : AHeap} {nx : Nat} (hn : h.next = nx) (boot : Int) (hb : 0 ≤ boot ∧ boot < 4294967296) : AE Try.prog 50 [.int .u64 boot] h (.tup [.ptr nx 0 0, .int .i64 0]) (h.put nx (mkO boot 0)) := by
  subst hn
  refine AC.introW is_nonce_New (by simp) ?_
  unfold c_nonce_New
  (refine go ?_)
  (refine WW.ifB rfl (fun hz1 => ?_) (fun hz1 => ?_))
  · exfalso; omega
  (refine go ?_)
  exact WW.ret ⟨.inl rfl, _, gRES, rfl, rfl⟩
theorem nonce_Left_ae {h : AHeap} {m : Nat} {boot : Int} {k : Nat} (hm : h.get m = some (mkO boot k)) (hk : k ≤ 100) : AE Try.prog 124 [.ptr m 0 0] h (.int .i64 (100 - k)) h := by
  refine AE.wf fun hwf => ?_
  have h0 := hwf _ _ hm
  refine AE.pureW is_nonce_Maker_Left (by simp) ?_
  unfold c_nonce_Maker_Left
  simp only [mkO] at hm
  (refine go ?_)
  refine WW.ret (PureQ.finD ?_)
  exact fz_i rfl
theorem nonce_Next_ae {h : AHeap} {m : Nat} {boot : Int} {k : Nat} (hm : h.get m = some (mkO boot k)) (hb : 0 ≤ boot ∧ boot < 4294967296) (hk : k < 100) (e slot : Int) (hs : 0 ≤ slot ∧ slot ≤ 65535) :
    AE Try.prog 93 [.ptr m 0 0, .int .u32 e, .int .i64 slot] h (.tup [.agg (encN (e, slot, boot * 4294967296 + ((k + 1 : Nat) : Int))), .int .i64 0]) (h.set m (some (mkO boot (k + 1)))) := by
  refine AE.wf fun hwf => ?_
  have h0 := hwf _ _ hm
  refine AE.effW is_nonce_Maker_Next (by simp) ?_ ?_
  · exact Ext.set Ext.refl (Nm.old hm) (clo_flat4 (by simp [AV.flat]))
  unfold c_nonce_Maker_Next
  have hm' := hm
  simp only [mkO] at hm'
  (refine go ?_)
  (apply WL.orB; exact rfl; exact rfl; exact rfl; exact BP.of; intro hz1)
  · (repeat first | (apply GW.goS; exact Stp.auto) | apply GW.nil | exact rfl)
  (refine go ?_)
  (refine WW.ifB rfl (fun hz2 => ?_) (fun hz2 => ?_))
  · exfalso; simp at hz2; omega
  (refine go ?_)
  refine WL.call rfl (by first | exact True.intro | exact rfl) gSL (nonce_Left_ae (get_put_neE (by omega) hm) (by omega)) ?_
  (refine go ?_)
  (refine WW.ifB rfl (fun hz3 => ?_) (fun hz3 => ?_))
  · exfalso; omega
  (refine go ?_)
  have hx : IntKind.u64.wrap (IntKind.u64.wrap (boot * 2 ^ min (Int.toNat 32) IntKind.u64.bits) + ((k + 1 : Nat) : Int)) = boot * 4294967296 + ((k + 1 : Nat) : Int) := by
    rw [show min (Int.toNat 32) IntKind.u64.bits = 32 by decide, wrap_in (k := .u64) (n := boot * 2 ^ 32) (by constructor <;> omega), wrap_in (by constructor <;> omega)]; rfl
  refine WW.ret (EffQ.finD ?_ ?_)
  · refine ⟨gLE, fun id hu => ?_⟩; have hlt : id < AHeap.next h := hu.1; simp only [get_put, get_set]; (repeat' split) <;> first | rfl | omega | (simp [mkO]; done)
  · exact Fz.tup2 (fz_agg (by rw [hx]; rfl) (by simp [AV.flat])) (fz_i rfl)
theorem nonce_Boot_ae (e s v : Int) (hv : 0 ≤ v ∧ v < 18446744073709551616) (h : AHeap) : AE Try.prog 126 [.agg (encN (e, s, v))] h (.int .u64 (v / 4294967296)) h := by
  refine AE.pureW is_nonce_Boot (by simp) ?_
  unfold c_nonce_Boot
  (refine go ?_)
  refine WW.ret (PureQ.finD ?_)
  refine fz_i ?_
  rw [show min (Int.toNat 32) IntKind.u64.bits = 32 by decide, Int.fdiv_eq_ediv_of_nonneg _ (by decide)]; rfl
end Go.Proofs.Ytjehfcjfnmcjcaa


namespace Go.Proofs.Ytjehfcjfnmcjcaa
open Go Go.Abs

def dkPut (n : DkN) (w : PwS) (x : DkS) (h : AHeap) : AHeap := (((h.set n.p (some (.mem 4 [w.row]))).set n.w (some (.tail x.gen x.waits.length))).set n.t (some (.tail 0 x.trace.length))).set n.d (some (.mem 36 [dkRow n.p n.w n.t x]))
structure DkNe (h : AHeap) (n : DkN) : Prop where
  a1 : n.p < h.next
  a2 : n.d < h.next
  a4 : n.w < h.next
  a5 : n.t < h.next
  b1 : n.p ≠ n.d
  b3 : n.p ≠ n.w
  b4 : n.p ≠ n.t
  b6 : n.d ≠ n.w
  b7 : n.d ≠ n.t
  bx : n.w ≠ n.t
theorem DkAt.nes {h : AHeap} {n : DkN} {w : PwS} {x : DkS} (hd : DkAt h n w x) (hwf : ∀ id y, h.get id = some y → id < h.next) : DkNe h n := by
  obtain ⟨q1, q2, q4, q5, q6, q7⟩ := hd
  have key : ∀ {i j : Nat} {y z : AObj}, h.get i = some y → h.get j = some z → y ≠ z → i ≠ j := fun hi hj hne e => by
    subst e; rw [hi] at hj; exact hne (Option.some.inj hj)
  refine ⟨hwf _ _ q1, hwf _ _ q2, hwf _ _ q4, hwf _ _ q5, key q1 q2 ?_, key q1 q4 ?_, key q1 q5 ?_, key q2 q4 ?_, key q2 q5 ?_, q6⟩ <;> simp
theorem DkAt.put {h : AHeap} {n : DkN} (hn : DkNe h n) (w' : PwS) {x' : DkS} (hl : x'.lasts.length = 32) : DkAt (dkPut n w' x' h) n w' x' := by
  obtain ⟨a1, a2, a4, a5, b1, b3, b4, b6, b7, bx⟩ := hn
  unfold dkPut
  exact ⟨gH, gH, gH, gH, bx, hl⟩
def DkS.write (x : DkS) (o : Wr) (ok : Bool) : DkS := if ok then { x with waits := x.waits ++ [o], trace := x.trace ++ [o] } else x
/-- A block as it is read. -/
def DkS.block (x : DkS) (lba : Int) : Bs := x.waits.foldl (fun b o => if o.1 = lba then o.2 else b) (x.lasts.getD lba.toNat [])
end Go.Proofs.Ytjehfcjfnmcjcaa


namespace Go.Proofs.Ytjehfcjfnmcjcaa
open Go Go.Abs

/-- A function that has a body. -/
structure Bodied (f : Nat) : Prop where
  ok : bodied Try.prog f = true
theorem map_lay (b : Bs) (o : Int) (d : Bs) : List.take o.toNat (b.map encB) ++ List.take (min (d.map encB).length (b.length - o.toNat)) (d.map encB) ++ List.drop (o.toNat + min (d.map encB).length (b.length - o.toNat)) (b.map encB) = (layO b (o, d)).map encB := by
  simp [layO, List.map_take, List.map_drop]
/-- A row that may be written, copied: another one. -/
theorem bytes_CloneR_ae {h : AHeap} {B nx : Nat} {l : Bs} (hn : h.next = nx) (hB : h.get B = some (.mem 1 (l.map encB))) (hne : l ≠ []) (hl : l.length ≤ 1000000) : AE Try.prog 60 [.ref B 0 l.length] h (.ref nx 0 l.length) (h.put nx (.mem 1 (l.map encB))) := by
  subst hn
  refine AE.wf fun hwf => ?_
  have h0 := hwf _ _ hB
  refine AC.introW is_bytes_Clone (by simp) ?_
  unfold c_bytes_Clone
  (repeat first | refine WW.seq ?_ | refine WW.reg ?_ | refine WL.nil ?_ | refine WW.skip ?_ | refine WW.block ?_ | refine thenN ?_ | refine blkN ?_); iterate 1 (refine WL.go ?_)
  (repeat first | refine WW.seq ?_ | refine WW.reg ?_ | refine WL.nil ?_ | refine WW.skip ?_ | refine WW.block ?_ | refine thenN ?_ | refine blkN ?_); iterate 1 (refine WL.go ?_)
  refine WL.go (hs := Stp.isnil (t := false) rfl rfl (by first | exact True.intro | exact rfl)) ?_
  (repeat first | refine WW.seq ?_ | refine WW.reg ?_ | refine WL.nil ?_ | refine WW.skip ?_ | refine WW.block ?_ | refine thenN ?_ | refine blkN ?_)
  refine WW.condF rfl ?_
  (repeat first | refine WW.seq ?_ | refine WW.reg ?_ | refine WL.nil ?_ | refine WW.skip ?_ | refine WW.block ?_ | refine thenN ?_ | refine blkN ?_)
  (repeat first | refine WW.seq ?_ | refine WW.reg ?_ | refine WL.nil ?_ | refine WW.skip ?_ | refine WW.block ?_ | refine thenN ?_ | refine blkN ?_); iterate 2 (refine WL.go ?_)
  refine WL.fx1 (FX.appM (nm := h.next) (c := l.map encB) (fun hu => Nat.lt_irrefl _ hu.1) rfl rfl (by rw [rdS_ref hB, List.drop_zero, List.take_of_length_le (by simp)]) (by simpa using hne) (by simp; omega) (by first | exact True.intro | exact rfl)) ?_
  rw [List.length_map]
  (refine go ?_)
  exact WW.ret ⟨.inl rfl, _, gRES, rfl, rfl⟩
set_option maxHeartbeats 1000000 in
theorem ssd_Snap_ae {h : AHeap} {n : SdN} {w : PwS} {x : SdS} (hd : SdAt h n w x) (hl : x.lasts.length ≤ 1000000) (hl0 : x.lasts ≠ []) (h1 : x.waits.length ≤ 1000000) (hw : ∀ o ∈ x.waits, 0 ≤ o.1 ∧ o.1 + o.2.length ≤ x.lasts.length) :
    AE Try.prog 54 [.ptr n.s 0 0] h (.imm 1 (x.snap.map encB)) h := by
  refine AE.wf fun hwf => ?_
  obtain ⟨a1, a2, a3, a4, a5, b1, b2, b3, b4, b5, b6, b7, b8, b9, bx⟩ := hd.nes hwf
  obtain ⟨q1, q2, q3, q4, q5, q6⟩ := hd
  refine AE.pureW is_ssd_SSD_Snap (by simp) ?_
  unfold c_ssd_SSD_Snap
  simp only [SdS.obj] at q2
  (refine go ?_)
  refine WL.call rfl (by first | exact True.intro | exact rfl) gSL (bytes_CloneR_ae (nx := h.next) rfl q3 hl0 hl) ?_
  (refine go ?_)
  refine WW.loopE (fun (s : Nat × Bs) => [(3, some (.ref h.next 0 x.lasts.length)), (16, some (.app n.w x.gen 2 (x.waits.map encO))), (17, some (.int .i64 x.waits.length)), (18, some (.int .i64 s.1))])
    (fun s h' => h'.get h.next = some (.mem 1 (s.2.map encB)) ∧ Keeps h h' ∧ h.next + 1 ≤ h'.next ∧ s.2.length = x.lasts.length ∧ s.1 ≤ x.waits.length ∧ (x.waits.drop s.1).foldl layO s.2 = x.snap)
    (fun s => x.waits.length - s.1) (0, x.lasts) gSUB ⟨gH, gK, (leN gN (by omega)), rfl, Nat.zero_le _, rfl⟩ ?_
  rintro ⟨i, b⟩ h' ⟨g1, g2, g3, g4, g5, g6⟩
  dsimp only at g1 g2 g3 g4 g5 g6 ⊢
  obtain ⟨nx, hnx⟩ : ∃ nx, h'.next = nx := ⟨_, rfl⟩
  (refine go ?_)
  (refine WW.ifB rfl (fun hz1 => ?_) (fun hz1 => ?_))
  · have hi : i < x.waits.length := by omega
    have hwi := hw x.waits[i] (List.getElem_mem hi)
    (repeat first | refine WW.seq ?_ | refine WW.reg ?_ | refine WL.nil ?_ | refine WW.skip ?_ | refine WW.block ?_ | refine thenN ?_ | refine blkN ?_); iterate 4 (refine WL.go ?_)
    (repeat first | refine WL.go ?_ | refine WW.seq ?_ | refine WW.reg ?_ | refine WL.nil ?_ | refine WW.skip ?_ | refine WW.block ?_ | refine WW.exit ?_ | refine WW.condT rfl ?_ | refine WW.condF rfl ?_ | refine WL.gox ?_ | refine thenN ?_ | refine blkN ?_)
    refine WW.dregX [6] [] [h.next] gN (by decide +kernel) ?_
    (refine go ?_)
    have hm : List.take (0 + x.waits[i].1.toNat) (b.map encB) ++ List.take (min (x.waits[i].2.map encB).length (x.lasts.length - x.waits[i].1.toNat)) (x.waits[i].2.map encB) ++ List.drop (0 + x.waits[i].1.toNat + min (x.waits[i].2.map encB).length (x.lasts.length - x.waits[i].1.toNat)) (b.map encB) = (layO b x.waits[i]).map encB := by
      rw [Nat.zero_add, ← g4]; exact map_lay b x.waits[i].1 x.waits[i].2
    refine ⟨(i + 1, layO b x.waits[i]), gSUB, ⟨?_, gK, (leN gN (by omega)), by dsimp only; rw [layO_len _ _ (by omega), g4], by dsimp only; omega, ?_⟩, by dsimp only; omega⟩
    · dsimp only
      rw [← hm]; exact gH
    · rw [← g6, List.drop_eq_getElem_cons hi, List.foldl_cons]
  · have hi : i = x.waits.length := by omega
    subst hi
    simp only [List.drop_length, List.foldl_nil] at g6
    (refine go ?_)
    rw [← g6]
    refine WW.ret (PureQ.finD ?_)
    exact fz_ref gH (Nat.le_refl _) (by simp [g4]) rfl (flatB _)
theorem lay_len : ∀ (l : List Wr) (b : Bs) (n : Nat), b.length = n → (∀ o ∈ l, 0 ≤ o.1 ∧ o.1 + o.2.length ≤ n) → (l.foldl layO b).length = n
  | [], _, _, hb, _ => hb
  | o :: l, b, n, hb, hw => by
    rw [List.foldl_cons]
    exact lay_len l _ n (by rw [layO_len _ _ (by have := hw o (by simp); omega), hb]) fun y hy => hw y (by simp [hy])
theorem snap_len {x : SdS} (hw : ∀ o ∈ x.waits, 0 ≤ o.1 ∧ o.1 + o.2.length ≤ x.lasts.length) : x.snap.length = x.lasts.length := lay_len _ _ _ rfl hw
theorem ssd_Read_ae {h : AHeap} {n : SdN} {w : PwS} {x : SdS} (hd : SdAt h n w x) (hl : x.lasts.length ≤ 1000000) (hl0 : x.lasts ≠ []) (h1 : x.waits.length ≤ 1000000) (hw : ∀ o ∈ x.waits, 0 ≤ o.1 ∧ o.1 + o.2.length ≤ x.lasts.length) (off k : Int) (hk : k ≤ 9223372036854775807) :
    AE Try.prog 39 [.ptr n.s 0 0, .int .i64 off, .int .i64 k] h (.tup [.imm 1 ((if inB x.lasts.length off k && !w.gone then (x.snap.drop off.toNat).take k.toNat else []).map encB), .bool (inB x.lasts.length off k && !w.gone)]) h := by
  have hd' := hd
  obtain ⟨q1, q2, q3, q4, q5, q6⟩ := hd
  refine AE.wf fun hwf => ?_
  have h0 := hwf _ _ q2
  refine AE.pureW is_ssd_SSD_Read (by simp) ?_
  unfold c_ssd_SSD_Read
  (refine go ?_)
  refine WL.call rfl (by first | exact True.intro | exact rfl) gSL (ssd_is_ae q2 hl off k hk) ?_
  have q2' := q2
  simp only [SdS.obj] at q2'
  cases hin : inB x.lasts.length off k with
  | false =>
    (refine go ?_)
    refine WW.ret (PureQ.finD ?_)
    exact Fz.tup2 (.nil _) (fz_b rfl)
  | true =>
    (refine go ?_)
    refine WL.call rfl (by first | exact True.intro | exact rfl) gSL (power_On_ae q1) ?_
    cases hg : w.gone with
    | true =>
      (refine go ?_)
      refine WW.ret (PureQ.finD ?_)
      exact Fz.tup2 (.nil _) (fz_b rfl)
    | false =>
      have hin' : 0 ≤ off ∧ 0 ≤ k ∧ off ≤ x.lasts.length ∧ k ≤ x.lasts.length - off := by simpa [inB, and_assoc] using hin
      have hsl : x.snap.length = x.lasts.length := snap_len hw
      (refine go ?_)
      refine WL.call rfl (by first | exact True.intro | exact rfl) gSL (ssd_Snap_ae hd' hl hl0 h1 hw) ?_
      (refine go ?_)
      have he : List.drop off.toNat (List.take (off + k).toNat (x.snap.map encB)) = ((x.snap.drop off.toNat).take k.toNat).map encB := by
        rw [← List.map_take, ← List.map_drop, List.drop_take, show (off + k).toNat - off.toNat = k.toNat by omega]
      rw [he]
      refine WW.ret (PureQ.finD ?_)
      exact Fz.tup2 (fz_bytes rfl) (fz_b rfl)
def sd0 (k : Nat) : SdS := ⟨List.replicate k 0, [], [], 0⟩
def sdNew (p nx k : Nat) (h : AHeap) : AHeap := (((h.put nx (.mem 1 ((sd0 k).lasts.map encB))).put (nx + 1) ((sd0 k).obj ⟨p, nx + 1, nx, nx + 2, nx + 3⟩)).put (nx + 2) (.tail 0 0)).put (nx + 3) (.tail 0 0)
theorem ssd_New_ae {h : AHeap} {p nx : Nat} (hn : h.next = nx) (hp : p < nx) (k : Nat) (hk : k ≤ 65536) : AE Try.prog 68 [.int .i64 k, .ptr p 0 0] h (.ptr (nx + 1) 0 0) (sdNew p nx k h) := by
  subst hn
  refine AC.introW is_ssd_New (by simp) ?_
  unfold c_ssd_New
  (refine go ?_)
  (refine WW.ifB rfl (fun hz1 => ?_) (fun hz1 => ?_))
  · exfalso; omega
  (repeat first | refine WW.seq ?_ | refine WW.reg ?_ | refine WL.nil ?_ | refine WW.skip ?_ | refine WW.block ?_ | refine thenN ?_ | refine blkN ?_)
  (repeat first | refine WW.seq ?_ | refine WW.reg ?_ | refine WL.nil ?_ | refine WW.skip ?_ | refine WW.block ?_ | refine thenN ?_ | refine blkN ?_); iterate 2 (refine WL.go ?_)
  (repeat first | refine WW.seq ?_ | refine WW.reg ?_ | refine WL.nil ?_ | refine WW.skip ?_ | refine WW.block ?_ | refine thenN ?_ | refine blkN ?_); iterate 4 (refine WL.go ?_)
  have hz : List.replicate k [AV.int .u8 0] = (sd0 k).lasts.map encB := by show _ = (List.replicate k (0 : UInt8)).map encB; rw [List.map_replicate]; rfl
  rw [hz]
  refine WL.cvt (Cvt.adoptM 2 (id := h.next + 1) (i := 0) (j := 2) gH rfl rfl gN) ?_
  refine WL.cvt (Cvt.adoptM 2 (id := h.next + 1) (i := 0) (j := 3) gH rfl rfl gN) ?_
  (refine go ?_)
  refine WW.ret ⟨.inl rfl, _, gRES, rfl, hp_ext' (fun i => ?_) ?_ fun i => rfl⟩
  · have ho : (sd0 k).obj ⟨p, h.next + 1, h.next, h.next + 2, h.next + 3⟩ = .mem 4 [[.ptr p 0 0, .ref h.next 0 k, .app (h.next + 2) 0 2 [], .app (h.next + 3) 0 2 []]] := by simp [SdS.obj, sd0]
    unfold sdNew
    rw [ho]
    simp only [get_put, get_set]
    (repeat' split) <;> first | rfl | omega
  · unfold sdNew; exact (gN : _ = h.next + 1 + 1 + 1 + 1).trans (gN : _ = h.next + 1 + 1 + 1 + 1).symm
end Go.Proofs.Ytjehfcjfnmcjcaa


namespace Go.Proofs.Ytjehfcjfnmcjcaa
open Go Go.Abs

/-- A real lock's cells. -/
def reC : List AV := [.func (.func 104) [] [], .func (.func 105) [] [], .func (.func 106) [] [], .func (.func 16) [.nilp] [], .func (.func 19) [.nilp] []]
theorem lock_Real_ae {h : AHeap} {nx : Nat} (hn : h.next = nx) : AE Try.prog 66 [] h (.ptr nx 0 0) (h.put nx (.mem 5 [reC])) := by
  subst hn
  refine AC.introW is_lock_Real (by simp) ?_
  unfold c_lock_Real
  (refine go ?_)
  exact WW.ret ⟨.inl rfl, _, gRES, rfl, rfl⟩
theorem lock_SealR_ae {h : AHeap} {l : Nat} (hl : h.get l = some (.mem 5 [reC])) (key : Pr) (n : Nn) (head data : Bs) (h1 : head.length ≤ 4000) (h2 : data.length ≤ 4000) :
    AE Try.prog 25 [.ptr l 0 0, .agg (encP key), .agg (encN n), .imm 1 (head.map encB), .imm 1 (data.map encB)] h (.tup [.agg (encS (gcmB key n data) (gcmT key n head (gcmB key n data))), .bool true]) h := by
  refine AE.wf fun hwf => ?_
  have h0 := hwf _ _ hl
  refine AE.pureW is_lock_Lock_Seal (by simp) ?_
  unfold c_lock_Lock_Seal
  simp only [reC] at hl
  (refine go ?_)
  refine DW.fxR (FX.callv rfl rfl (by first | exact True.intro | exact rfl) (by kernel_rfl) (gcm_Seal_ae key n head data h1 h2 _)) rfl rfl ?_
  (refine go ?_)
  refine WW.ret (PureQ.finD ?_)
  exact fz_seal _ _
theorem lock_OpenR_ae {h : AHeap} {l : Nat} (hl : h.get l = some (.mem 5 [reC])) (key : Pr) (n : Nn) (head b : Bs) (tg : Pr) (h1 : head.length ≤ 4000) (h2 : b.length ≤ 4000) :
    AE Try.prog 128 [.ptr l 0 0, .agg (encP key), .agg (encN n), .imm 1 (head.map encB), .agg (encS b tg)] h (.tup [.imm 1 (((gcmO key n head b tg).getD []).map encB), .bool (gcmO key n head b tg).isSome]) h := by
  refine AE.wf fun hwf => ?_
  have h0 := hwf _ _ hl
  refine AE.pureW is_lock_Lock_Open (by simp) ?_
  unfold c_lock_Lock_Open
  simp only [reC] at hl
  (refine go ?_)
  refine DW.fxR (FX.callv rfl rfl (by first | exact True.intro | exact rfl) (by kernel_rfl) (gcm_Open_ae key n head b tg h1 h2 _)) rfl rfl ?_
  (refine go ?_)
  refine WW.ret (PureQ.finD ?_)
  exact Fz.tup2 (fz_immB rfl) (fz_b rfl)
end Go.Proofs.Ytjehfcjfnmcjcaa


namespace Go.Proofs.Ytjehfcjfnmcjcaa
open Go Go.Abs

theorem lock_SealI_ae {h : AHeap} {l o t s g : Nat} {L : List Iss} {S : List Bs} (hl : IdAt h l o t s g L S) (hL : L.length ≤ 1000000) (k : Pr) (n : Nn) (head data : Bs) (hh : head.length ≤ 4000) (hd : data.length ≤ 4000) :
    AE Try.prog 25 [.ptr l 0 0, .agg (encP k), .agg (encN n), .imm 1 (head.map encB), .imm 1 (data.map encB)] h
      (.tup [.agg (encS (newI (L.length + 1) k n head data).out (newI (L.length + 1) k n head data).tag), .bool true])
      ((h.set t (some (.tail g (L.length + 1)))).set o (some (.mem 2 [[.app t g 10 ((L ++ [newI (L.length + 1) k n head data]).map encI), .map s]]))) := by
  obtain ⟨q0, hO⟩ := hl
  obtain ⟨q1, q2, q3⟩ := id hO
  refine AE.wf fun hwf => ?_
  have h0 := hwf _ _ q0
  have ho := hwf _ _ q1
  have ht := hwf _ _ q2
  have hs := hwf _ _ q3
  have d1 : l ≠ o := fun e => by subst e; rw [q0] at q1; cases q1
  have d2 : l ≠ t := fun e => by subst e; rw [q0] at q2; cases q2
  have d3 : t ≠ o := fun e => by subst e; rw [q1] at q2; cases q2
  refine AE.effW is_lock_Lock_Seal (by simp) ?_ ?_
  · refine Ext.set (Ext.set (x := .tail _ _) Ext.refl (Nm.old q2) trivial) (Nm.old q1) ?_
    intro x hx v hv
    simp only [List.mem_singleton] at hx
    subst hx
    simp only [List.mem_cons, List.not_mem_nil, or_false] at hv
    rcases hv with rfl | rfl
    · exact .app _ _ _ _ (Nm.old q2) fun x hx v hv => by
        obtain ⟨i, _, rfl⟩ := List.mem_map.1 hx
        exact clo_encI i v hv
    · exact .map _ (Nm.old q3)
  unfold c_lock_Lock_Seal
  simp only [idC] at q0
  (repeat first | refine WL.go ?_ | refine WW.seq ?_ | refine WW.reg ?_ | refine WL.nil ?_ | refine WW.skip ?_ | refine WW.block ?_ | refine WW.exit ?_ | refine WW.condT rfl ?_ | refine WW.condF rfl ?_ | refine WL.gox ?_ | refine thenN ?_ | refine blkN ?_)
  refine WW.dregX [8, 11] [] [t, o, h.next + 2] gN (by decide +kernel) ?_
  (refine go ?_)
  have hcon := oracle_Seal_ae (h := ((h.put h.next (.mem 2 [encP k])).put (h.next + 1) (.mem 3 [encN n])).put (h.next + 2) (.mem 3 [[.nils, .int .u64 0, .int .u64 0]])) (orAt_get hO gE gE gE) hL k n head data hh hd
  refine DW.fx0 (FX.callv rfl rfl (by first | exact True.intro | exact rfl) (by kernel_rfl) hcon) rfl rfl (fun hp => PhiW.setW (by simp) (PhiW.setW (by simp) hp)) rfl ?_
  (refine go ?_)
  generalize newI (L.length + 1) k n head data = x at *
  refine WW.ret (EffQ.finD ?_ ?_)
  · refine ⟨gLE, fun id hu => ?_⟩; have hlt : id < AHeap.next h := hu.1; simp only [get_put, get_set]; (repeat' split) <;> first | rfl | omega | (simp []; done)
  · refine .clo _ (.tup _ fun v hv => ?_)
    simp only [List.mem_cons, List.not_mem_nil, or_false] at hv
    rcases hv with rfl | rfl
    · exact .agg _ (clo_encS x.out x.tag)
    · exact .bool _
theorem lock_OpenI_ae {h : AHeap} {l o t s g : Nat} {L : List Iss} {S : List Bs} (hl : IdAt h l o t s g L S) (hL : L.length ≤ 1000000) (hd : ∀ x ∈ L, x.data.length ≤ 1000000) (k : Pr) (n : Nn) (head b : Bs) (tg : Pr) :
    AE Try.prog 128 [.ptr l 0 0, .agg (encP k), .agg (encN n), .imm 1 (head.map encB), .agg (encS b tg)] h
      (.tup [.imm 1 (((openO L k n head b tg).getD []).map encB), .bool (openO L k n head b tg).isSome]) h := by
  obtain ⟨q0, hO⟩ := hl
  obtain ⟨q1, q2, q3⟩ := id hO
  refine AE.wf fun hwf => ?_
  have h0 := hwf _ _ q0
  have ho := hwf _ _ q1
  have ht := hwf _ _ q2
  have hs := hwf _ _ q3
  refine AE.pureW is_lock_Lock_Open (by simp) ?_
  unfold c_lock_Lock_Open
  simp only [idC] at q0
  (refine go ?_)
  refine DW.fxR (FX.callv rfl rfl (by first | exact True.intro | exact rfl) (by kernel_rfl) (oracle_Open_ae (orAt_get hO gE gE gE) hL hd k n head b tg)) rfl rfl ?_
  (refine go ?_)
  refine WW.ret (PureQ.finD ?_)
  exact Fz.tup2 (fz_immB rfl) (fz_b rfl)
end Go.Proofs.Ytjehfcjfnmcjcaa


namespace Go.Proofs.Ytjehfcjfnmcjcaa
open Go Go.Abs

/-- All that is there: slots, power, the devices, the counters, the keys, what the lock sealed and summed. -/
structure WS where
  n : Int
  pw : PwS
  sd : SdS
  dk : DkS
  ct : CtS
  ks : KsS
  L : List Iss
  S : List Bs
/-- The names of a world's objects: power, the lock's four, from a on the rest. -/
structure WN where
  p : Nat
  l : Nat
  o : Nat
  t : Nat
  q : Nat
  a : Nat
  B : Nat
  E : Nat
def wRow (n : WN) (k : Int) : List AV := [.int .i64 k, .ptr n.p 0 0, .ptr (n.a + 1) 0 0, .ptr (n.a + 4) 0 0, .ptr (n.a + 7) 0 0, .ptr (n.a + 9) 0 0, .ptr n.l 0 0]
/-- Either lock, by what it sealed and summed. -/
structure LkAt (md : Bool) (h : AHeap) (l o t q : Nat) (L : List Iss) (S : List Bs) : Prop where
  id : md = true → IdAt h l o t q 0 L S
  re : md = false → h.get l = some (.mem 5 [reC])
structure WAt (md : Bool) (h : AHeap) (n : WN) (s : WS) : Prop where
  sd : SdAt h ⟨n.p, n.a + 1, n.B, n.a + 2, n.a + 3⟩ s.pw s.sd
  dk : DkAt h ⟨n.p, n.a + 4, n.a + 5, n.a + 6⟩ s.pw s.dk
  ct : h.get (n.a + 7) = some (s.ct.obj n.p)
  ks : KsAt h n.p (n.a + 9) n.E s.ks
  w : h.get (n.a + 10) = some (.mem 7 [wRow n s.n])
  lk : LkAt md h n.l n.o n.t n.q s.L s.S
  op : n.p < n.a
  ol : n.l < n.a
  oo : md = true → n.o < n.a ∧ n.t < n.a ∧ n.q < n.a
  nx : n.a + 11 ≤ h.next
  oB : (n.B = n.a ∨ n.a + 11 ≤ n.B) ∧ (n.E = n.a + 8 ∨ n.a + 11 ≤ n.E) ∧ n.B ≠ n.E
  nB : n.B < h.next ∧ n.E < h.next
def ws0 (k : Nat) (seed : Int) : WS := ⟨k, ⟨false, false, 0, 0⟩, sd0 (k * 160 + 120), dk0, ⟨0, 0, 0⟩, ⟨seed, [1]⟩, [], []⟩
theorem SdAt.same {h h' : AHeap} {n : SdN} {w : PwS} {x : SdS} (hd : SdAt h n w x) (h1 : h'.get n.p = h.get n.p) (h2 : h'.get n.s = h.get n.s) (h3 : h'.get n.B = h.get n.B) (h4 : h'.get n.w = h.get n.w) (h5 : h'.get n.t = h.get n.t) : SdAt h' n w x :=
  ⟨h1.trans hd.pw, h2.trans hd.ob, h3.trans hd.bl, h4.trans hd.wt, h5.trans hd.tr, hd.ne⟩
theorem DkAt.same {h h' : AHeap} {n : DkN} {w : PwS} {x : DkS} (hd : DkAt h n w x) (h1 : h'.get n.p = h.get n.p) (h2 : h'.get n.d = h.get n.d) (h4 : h'.get n.w = h.get n.w) (h5 : h'.get n.t = h.get n.t) : DkAt h' n w x :=
  ⟨h1.trans hd.pw, h2.trans hd.ob, h4.trans hd.wt, h5.trans hd.tr, hd.ne, hd.ll⟩
theorem KsAt.same {h h' : AHeap} {p k te : Nat} {s : KsS} (hd : KsAt h p k te s) (h2 : h'.get k = h.get k) (h3 : h'.get te = h.get te) : KsAt h' p k te s :=
  ⟨h2.trans hd.ob, h3.trans hd.tl, hd.ne, hd.sm⟩
theorem LkAt.same {md : Bool} {h h' : AHeap} {l o t q : Nat} {L : List Iss} {S : List Bs} (hd : LkAt md h l o t q L S) (h1 : h'.get l = h.get l) (h2 : md = true → h'.get o = h.get o ∧ h'.get t = h.get t ∧ h'.get q = h.get q) : LkAt md h' l o t q L S := by
  refine ⟨fun e => ?_, fun e => h1.trans (hd.re e)⟩
  obtain ⟨g1, g2, g3⟩ := h2 e
  obtain ⟨q0, q1, q2, q3⟩ := hd.id e
  exact ⟨h1.trans q0, ⟨g1.trans q1, g2.trans q2, g3.trans q3⟩⟩
theorem sdNew_ex {h : AHeap} {p nx k : Nat} {w : PwS} (hn : h.next = nx) (hp : p < nx) (hw : h.get p = some (.mem 4 [w.row])) : ∃ h1, sdNew p nx k h = h1 ∧ SdAt h1 ⟨p, nx + 1, nx, nx + 2, nx + 3⟩ w (sd0 k) ∧ h1.next = nx + 4 ∧ (∀ id, id < nx → h1.get id = h.get id) ∧ (∀ h0 : AHeap, Keeps h0 h → Keeps h0 h1) := by
  subst hn
  refine ⟨_, rfl, ?_, ?_, fun id hi => ?_, fun h0 k0 => ?_⟩
  · unfold sdNew
    exact sdAt_of gH gH gH gH gH (by omega)
  · unfold sdNew; show AHeap.next _ = h.next + 1 + 1 + 1 + 1; exact gN
  · unfold sdNew; exact gE
  · have := k0.1
    unfold sdNew; exact gK
theorem dkNew_ex {h : AHeap} {p nx : Nat} {w : PwS} (hn : h.next = nx) (hp : p < nx) (hw : h.get p = some (.mem 4 [w.row])) : ∃ h1, dkNew p nx h = h1 ∧ DkAt h1 ⟨p, nx, nx + 1, nx + 2⟩ w dk0 ∧ h1.next = nx + 3 ∧ (∀ id, id < nx → h1.get id = h.get id) ∧ (∀ h0 : AHeap, Keeps h0 h → Keeps h0 h1) := by
  subst hn
  refine ⟨_, rfl, ?_, ?_, fun id hi => ?_, fun h0 k0 => ?_⟩
  · unfold dkNew
    exact dkAt_of gH gH gH gH (by omega) (by simp [dk0])
  · unfold dkNew; show AHeap.next _ = h.next + 1 + 1 + 1; exact gN
  · unfold dkNew; exact gE
  · have := k0.1
    unfold dkNew; exact gK
set_option maxHeartbeats 2000000 in
theorem world_New_ac (md : Bool) (k : Nat) (hk : isG k = true) (seed : Int) (h : AHeap) : AC Try.prog 21 [.int .i64 k, .int .u64 seed, .bool md] h
    (fun r h' => ∃ n : WN, r = .tup [.ptr (n.a + 10) 0 0, .int .i64 0] ∧ WAt md h' n (ws0 k seed) ∧ h.next ≤ n.p ∧ h.next ≤ n.l ∧ (md = true → h.next ≤ n.o ∧ h.next ≤ n.t ∧ h.next ≤ n.q) ∧ h.next ≤ h'.next ∧ ∀ h0 : AHeap, Keeps h0 h → Keeps h0 h') := by
  refine AC.introW is_world_New (by simp) ?_
  unfold c_world_New
  (refine go ?_)
  refine WL.call rfl (by first | exact True.intro | exact rfl) gSL (geom_Is_ae k _) ?_
  rw [hk]
  (refine go ?_)
  refine WL.call rfl (by first | exact True.intro | exact rfl) gSL (power_New_ae rfl) ?_
  (refine go ?_)
  refine WL.call rfl (by first | exact True.intro | exact rfl) gSL (lock_Real_ae (nx := h.next + 1 + 1) gN) ?_
  refine WL.go ?_
  refine WL.nil ?_
  refine thenN ?_
  have hkk := isG_cases hk
  have hsz : sizeG (k : Int) = ((k * 160 + 120 : Nat) : Int) := by rw [sizeG, if_pos hk]; omega
  rw [put_set]
  refine WW.seqM (fun e7 h7 => ∃ l o t q a, subE [(1, some (.int .u64 seed)), (8, some (.ptr (h.next + 1) 0 0)), (9, some (.ptr h.next 0 0)), (10, some (.ptr l 0 0))] e7 ∧
    h7.get h.next = some (.mem 4 [(⟨false, false, 0, 0⟩ : PwS).row]) ∧ h7.get (h.next + 1) = some (.mem 1 [[.int .i64 k]]) ∧ LkAt md h7 l o t q [] [] ∧ h7.next = a ∧ h.next + 2 ≤ l ∧ l < a ∧ (md = true → h.next + 2 ≤ o ∧ o < a ∧ h.next + 2 ≤ t ∧ t < a ∧ h.next + 2 ≤ q ∧ q < a) ∧ ∀ h0 : AHeap, Keeps h0 h → Keeps h0 h7) ?_ ?_
  · cases md with
    | false =>
      (refine go ?_)
      refine ⟨rfl, h.next + 1 + 1, 0, 0, 0, h.next + 1 + 1 + 1, gSUB, gH, gH, ⟨nofun, fun _ => gH⟩, gN, by omega, by omega, nofun, fun h0 k0 => ?_⟩
      have := k0.1
      exact gK
    | true =>
      (refine go ?_)
      refine WL.call rfl (by first | exact True.intro | exact rfl) gSL (lock_Ideal_ae (nx := h.next + 1 + 1 + 1) gN) ?_
      obtain ⟨h2, e2, o2, n2, m2, k2⟩ := newL_ex (h := ((h.put h.next (.mem 4 [(⟨false, false, 0, 0⟩ : PwS).row])).put (h.next + 1) (.mem 1 [[.int .i64 k]])).put (h.next + 1 + 1) (.mem 5 [reC])) (nx := h.next + 1 + 1 + 1) gN
      rw [e2]
      clear e2
      have hx0 : Keeps h (((h.put h.next (.mem 4 [(⟨false, false, 0, 0⟩ : PwS).row])).put (h.next + 1) (.mem 1 [[.int .i64 k]])).put (h.next + 1 + 1) (.mem 5 [reC])) := gK
      (refine go ?_)
      refine ⟨rfl, _, _, _, _, _, gSUB, (m2 _ (by omega)).trans gH, (m2 _ (by omega)).trans gH, ⟨fun _ => o2, nofun⟩, n2, by omega, by omega, fun _ => ⟨by omega, by omega, by omega, by omega, by omega, by omega⟩, fun h0 k0 => k2 h0 ?_⟩
      have := k0.1
      exact gK
  · rintro e7 h7 ⟨l, o, t, q, a, hs7, hp0, hg0, hlk, hn7, l1, l2, hid, hK⟩
    refine WW.cvt (Cvt.sub hs7) ?_
    have hKh := (hK h (Keeps.refl _)).1
    (repeat first | refine WL.go ?_ | refine WW.seq ?_ | refine WW.reg ?_ | refine WL.nil ?_ | refine WW.skip ?_ | refine WW.block ?_ | refine WW.exit ?_ | refine WW.condT rfl ?_ | refine WW.condF rfl ?_ | refine WL.gox ?_ | refine thenN ?_ | refine blkN ?_)
    refine WW.dregX [5, 7, 9, 12, 15] [0] [] gN (by decide +kernel) ?_
    (refine go ?_)
    refine DW.callS rfl (by first | exact True.intro | exact rfl) gSL rfl (geom_Size_ae k _) ?_
    rw [hsz]
    (refine go ?_)
    refine DW.callSW rfl (by first | exact True.intro | exact rfl) gSL rfl rfl (fun hp => by unfold sdNew; exact PhiW.put (by omega) (PhiW.put (by omega) (PhiW.put (by omega) (PhiW.put (by omega) hp)))) (ssd_New_ae (nx := a) hn7 (by omega) (k * 160 + 120) (by omega)) ?_
    obtain ⟨h1, e1, d1, n1, m1, k1⟩ := sdNew_ex (k := k * 160 + 120) (nx := a) hn7 (by omega) hp0
    rw [e1]
    clear e1
    have hp1 := (m1 h.next (by omega)).trans hp0
    (refine go ?_)
    refine DW.callSW rfl (by first | exact True.intro | exact rfl) gSL rfl rfl (fun hp => by unfold dkNew; exact PhiW.put (by omega) (PhiW.put (by omega) (PhiW.put (by omega) hp))) (disk_New_ae (nx := a + 4) n1 (by omega)) ?_
    obtain ⟨h2, e2, d2, n2, m2, k2⟩ := dkNew_ex n1 (by omega) hp1
    rw [e2]
    clear e2
    (refine go ?_)
    refine DW.callSW rfl (by first | exact True.intro | exact rfl) gSL rfl rfl (fun hp => by repeat first | exact hp | refine PhiW.put (by omega) ?_ | refine PhiW.setN (by omega) ?_ | refine PhiW.setW (by simp; done) ?_) (count_New_ae (nx := a + 4 + 3) gN (p := h.next)) ?_
    (refine go ?_)
    refine DW.callSW rfl (by first | exact True.intro | exact rfl) gSL rfl rfl (fun hp => by repeat first | exact hp | refine PhiW.put (by omega) ?_ | refine PhiW.setN (by omega) ?_ | refine PhiW.setW (by simp; done) ?_) (keys_New_ae (nx := a + 4 + 3 + 1) gN seed) ?_
    (refine go ?_)
    refine WW.named (fun hF => (∀ id, id < a + 7 → hF.get id = h2.get id) ∧ hF.get (a + 7) = some (CtS.obj h.next ⟨0, 0, 0⟩) ∧ hF.get (a + 8) = some (.mem 1 [[.int .u32 1]]) ∧ hF.get (a + 9) = some ((⟨seed, [1]⟩ : KsS).obj h.next (a + 8)) ∧ hF.get (a + 10) = some (.mem 7 [[.int .i64 k, .ptr h.next 0 0, .ptr (a + 1) 0 0, .ptr (a + 4) 0 0, .ptr (a + 7) 0 0, .ptr (a + 9) 0 0, .ptr l 0 0]]) ∧ hF.next = a + 11 ∧ ∀ h0 : AHeap, Keeps h0 h → Keeps h0 hF)
      ⟨fun id hi => gE, gH, gH, gH, gH, ?_, fun h0 k0 => ?_⟩ ?_
    · show AHeap.next _ = a + 4 + 3 + 1 + 1 + 1 + 1
      exact gN
    · have k3 := k2 h0 (k1 h0 (hK h0 k0))
      have k4 := (hK h0 k0).1
      exact gK
    rintro hF ⟨f1, f2, f3, f4, f5, f6, f7⟩
    have f8 : ∀ id, id < a + 4 → hF.get id = h1.get id := fun id hi => (f1 id (by omega)).trans (m2 id hi)
    have f9 : ∀ id, id < a → hF.get id = h7.get id := fun id hi => (f8 id (by omega)).trans (m1 id hi)
    refine WW.ret ⟨.inl rfl, _, gRES, ⟨h.next, l, o, t, q, a, a, a + 8⟩, rfl, ⟨d1.same (f8 _ ?_) (f8 _ ?_) (f8 _ ?_) (f8 _ ?_) (f8 _ ?_), d2.same (f1 _ ?_) (f1 _ ?_) (f1 _ ?_) (f1 _ ?_), f2, ⟨f4, f3, by simp [ws0], by simp [ws0]⟩, f5, hlk.same (f9 _ l2) fun e => ⟨f9 _ (hid e).2.1, f9 _ (hid e).2.2.2.1, f9 _ (hid e).2.2.2.2.2⟩, ?_, l2, fun e => ⟨(hid e).2.1, (hid e).2.2.2.1, (hid e).2.2.2.2.2⟩, ?_, ⟨.inl rfl, .inl rfl, ?_⟩, ?_⟩, Nat.le_refl _, ?_, fun e => ⟨?_, ?_, ?_⟩, ?_, f7⟩
    all_goals (first | omega | (dsimp only; omega) | (have := hid e; omega) | (have := hid e; dsimp only; omega))
end Go.Proofs.Ytjehfcjfnmcjcaa


namespace Go.Proofs.Ytjehfcjfnmcjcaa
open Go Go.Abs

def WS.key (s : WS) : Pr := if s.ks.cur ∈ s.ks.epochs then ofK s.ks.seed s.ks.cur else (0, 0)
theorem world_Key_ae {md : Bool} {h : AHeap} {n : WN} {s : WS} (hw : WAt md h n s) (hc : 0 ≤ s.ks.cur ∧ s.ks.cur < 4294967296) : AE Try.prog 24 [.ptr (n.a + 10) 0 0] h (.tup [.int .u32 s.ks.cur, .agg (encP s.key)]) h := by
  have hn := hw.nx
  have hob := hw.w
  simp only [wRow] at hob
  refine AE.pureW is_world_World_Key (by simp) ?_
  have hnB := hw.nB
  unfold c_world_World_Key
  (refine go ?_)
  refine WL.call rfl (by first | exact True.intro | exact rfl) gSL (keys_Current_ae (hw.ks.same gE gE)) ?_
  (refine go ?_)
  refine WL.call rfl (by first | exact True.intro | exact rfl) gSL (keys_Key_ae (hw.ks.same gE gE) s.ks.cur hc) ?_
  (refine go ?_)
  refine WW.ret (PureQ.finD ?_)
  exact Fz.tup2 (.clo _ (.int _ _)) (fz_agg rfl (flatP _))
/-- A seal by either lock. -/
def sealP (md : Bool) (L : List Iss) (k : Pr) (n : Nn) (head data : Bs) : Bs × Pr := match md with
  | true => ((newI (L.length + 1) k n head data).out, (newI (L.length + 1) k n head data).tag)
  | false => (gcmB k n data, gcmT k n head (gcmB k n data))
def sealL (md : Bool) (L : List Iss) (k : Pr) (n : Nn) (head data : Bs) : List Iss := match md with
  | true => L ++ [newI (L.length + 1) k n head data]
  | false => L
theorem bool_of20 {c : List AV} (t : TypL [.b] c) : ∃ v : Bool, c = [.bool v] := by
  obtain ⟨v, vs, rfl, h1, h2⟩ := t.cons_inv
  obtain rfl := h2.nil_inv
  obtain ⟨x, rfl⟩ := h1.bool_inv
  exact ⟨x, rfl⟩
end Go.Proofs.Ytjehfcjfnmcjcaa


namespace Go.Proofs.Ytjehfcjfnmcjcaa
open Go Go.Abs

abbrev WN.sdN (n : WN) : SdN := ⟨n.p, n.a + 1, n.B, n.a + 2, n.a + 3⟩
abbrev WN.dkN (n : WN) : DkN := ⟨n.p, n.a + 4, n.a + 5, n.a + 6⟩
theorem WAt.nep {md : Bool} {h : AHeap} {n : WN} {s : WS} (hw : WAt md h n s) : n.l ≠ n.p ∧ (md = true → n.o ≠ n.p ∧ n.t ≠ n.p ∧ n.q ≠ n.p) := by
  have key : ∀ {i j : Nat} {y z : AObj}, h.get i = some y → h.get j = some z → y ≠ z → i ≠ j := fun hi hj hne e => by
    subst e; rw [hi] at hj; exact hne (Option.some.inj hj)
  have hp := hw.sd.pw
  refine ⟨?_, fun e => ?_⟩
  · cases md with
    | true => exact key (hw.lk.id rfl).cells hp (by simp)
    | false => exact key (hw.lk.re rfl) hp (by simp)
  · obtain ⟨q0, q1, q2, q3⟩ := hw.lk.id e
    exact ⟨key q1 hp (by simp), key q2 hp (by simp), key q3 hp (by simp)⟩
/-- Names of a world that no device turns. -/
def WN.still (md : Bool) (n : WN) (id : Nat) : Prop := id = n.a + 10 ∨ id = n.l ∨ (md = true ∧ (id = n.o ∨ id = n.t ∨ id = n.q))
theorem WAt.re {md : Bool} {h h' : AHeap} {n : WN} {s s' : WS} (hw : WAt md h n s) (hn : s'.n = s.n) (hL : s'.L = s.L) (hS : s'.S = s.S) (hx : h.next ≤ h'.next) (sd : SdAt h' n.sdN s'.pw s'.sd) (dk : DkAt h' n.dkN s'.pw s'.dk) (ct : h'.get (n.a + 7) = some (s'.ct.obj n.p)) (ks : KsAt h' n.p (n.a + 9) n.E s'.ks) (fr : ∀ id, n.still md id → h'.get id = h.get id) : WAt md h' n s' := by
  refine ⟨sd, dk, ct, ks, (fr _ (.inl rfl)).trans (by rw [hn]; exact hw.w), ?_, hw.op, hw.ol, hw.oo, Nat.le_trans hw.nx hx, hw.oB, ⟨Nat.lt_of_lt_of_le hw.nB.1 hx, Nat.lt_of_lt_of_le hw.nB.2 hx⟩⟩
  rw [hL, hS]
  exact hw.lk.same (fr _ (.inr (.inl rfl))) fun e => ⟨fr _ (.inr (.inr ⟨e, .inl rfl⟩)), fr _ (.inr (.inr ⟨e, .inr (.inl rfl)⟩)), fr _ (.inr (.inr ⟨e, .inr (.inr rfl)⟩))⟩
theorem WAt.still {md : Bool} {h : AHeap} {n : WN} {s : WS} (hw : WAt md h n s) {id : Nat} (hi : n.still md id) : id ≠ n.p ∧ (id < n.a ∨ id = n.a + 10) := by
  have hp := hw.nep
  have h1 := hw.op
  have hoB := hw.oB
  have h2 := hw.ol
  rcases hi with rfl | rfl | ⟨e, rfl | rfl | rfl⟩
  · omega
  · omega
  · have := hw.oo e; have := hp.2 e; omega
  · have := hw.oo e; have := hp.2 e; omega
  · have := hw.oo e; have := hp.2 e; omega
theorem WAt.sdNe {md : Bool} {h : AHeap} {n : WN} {s : WS} (hw : WAt md h n s) : SdNe h n.sdN := by
  have h1 := hw.op
  have hoB := hw.oB
  have h2 := hw.nx
  have h3 := hw.nB
  constructor <;> dsimp only <;> omega
theorem WAt.putSd {md : Bool} {h : AHeap} {n : WN} {s : WS} (hw : WAt md h n s) (w' : PwS) (x' : SdS) : WAt md (sdPut n.sdN w' x' h) n { s with pw := w', sd := x' } := by
  have h1 := hw.op
  have hoB := hw.oB
  have hd := hw.dk
  have hp := SdAt.put hw.sdNe w' x'
  have g : ∀ id, id ≠ n.p → (id ≠ n.B ∧ (id < n.a ∨ n.a + 4 ≤ id)) → (sdPut n.sdN w' x' h).get id = h.get id := fun id e1 e2 => get_sdPut (by dsimp only; omega) (by dsimp only; omega) (by dsimp only; omega) (by dsimp only; omega) (by dsimp only; omega)
  refine hw.re rfl rfl rfl (Nat.le_refl _) hp ⟨hp.pw, (g _ (by dsimp only; omega) (by dsimp only; omega)).trans hd.ob, (g _ (by dsimp only; omega) (by dsimp only; omega)).trans hd.wt, (g _ (by dsimp only; omega) (by dsimp only; omega)).trans hd.tr, hd.ne, hd.ll⟩ ((g _ (by omega) (by omega)).trans hw.ct) (hw.ks.same (g _ (by omega) (by omega)) (g _ (by omega) (by omega))) fun id hi => ?_
  have := hw.still hi
  exact g id this.1 (by omega)
/-- Power alone. -/
theorem WAt.putPw {md : Bool} {h : AHeap} {n : WN} {s : WS} (hw : WAt md h n s) (w' : PwS) : WAt md (h.set n.p (some (.mem 4 [w'.row]))) n { s with pw := w' } := by
  have h1 := hw.op
  have hoB := hw.oB
  have hd := hw.dk
  have hs := hw.sd
  have g : ∀ id, id ≠ n.p → (h.set n.p (some (.mem 4 [w'.row]))).get id = h.get id := fun id e1 => get_set_neE e1 rfl
  refine hw.re rfl rfl rfl (Nat.le_refl _) ⟨get_set_same, (g _ (by dsimp only; omega)).trans hs.ob, (g _ (by dsimp only; omega)).trans hs.bl, (g _ (by dsimp only; omega)).trans hs.wt, (g _ (by dsimp only; omega)).trans hs.tr, hs.ne⟩ ⟨get_set_same, (g _ (by dsimp only; omega)).trans hd.ob, (g _ (by dsimp only; omega)).trans hd.wt, (g _ (by dsimp only; omega)).trans hd.tr, hd.ne, hd.ll⟩ ((g _ (by omega)).trans hw.ct) (hw.ks.same (g _ (by omega)) (g _ (by omega))) fun id hi => ?_
  exact g id (hw.still hi).1
end Go.Proofs.Ytjehfcjfnmcjcaa


namespace Go.Proofs.Ytjehfcjfnmcjcaa
open Go Go.Abs

/-- All that was used is used and stands as it stood, but for W. -/
structure Kp (W : Nat → Prop) (h h1 : AHeap) : Prop where
  next : h.next ≤ h1.next
  us : ∀ id, h.used id → h1.used id
  get : ∀ id, h.used id → ¬ W id → h1.get id = h.get id
section
variable {W : Nat → Prop} {h h1 h2 : AHeap}
theorem Kp.refl : Kp W h h := ⟨Nat.le_refl _, fun _ h => h, fun _ _ _ => rfl⟩
theorem Kp.put (hk : Kp W h h1) {nm : Nat} (hn : h.next ≤ nm) (x : AObj) : Kp W h (h1.put nm x) :=
  ⟨next_le_put hk.next, fun id hu => put_used (hk.us id hu), fun id hu hw => by
    rw [get_put, if_neg (by have := hu.1; omega)]
    exact hk.get id hu hw⟩
theorem Kp.setN (hk : Kp W h h1) {nm : Nat} (hn : h.next ≤ nm) (x : Option AObj) : Kp W h (h1.set nm x) :=
  ⟨hk.next, hk.us, fun id hu hw => by
    rw [get_set, if_neg (by have := hu.1; omega)]
    exact hk.get id hu hw⟩
theorem Kp.setW (hk : Kp W h h1) {nm : Nat} (hn : W nm) (x : Option AObj) : Kp W h (h1.set nm x) :=
  ⟨hk.next, hk.us, fun id hu hw => by
    rw [get_set, if_neg (fun e => hw (by rw [e]; exact hn))]
    exact hk.get id hu hw⟩
theorem Kp.keep (hk : Kp W h h1) (k : Nat) : Kp W h (h1.keep k) := ⟨Nat.le_trans hk.next (Nat.le_add_right _ _), fun id hu => used_keep (hk.us id hu), hk.get⟩
theorem Kp.trans (hk : Kp W h h1) (hk2 : Kp W h1 h2) : Kp W h h2 := ⟨Nat.le_trans hk.next hk2.next, fun id hu => hk2.us id (hk.us id hu), fun id hu hw => (hk2.get id (hk.us id hu) hw).trans (hk.get id hu hw)⟩
theorem Kp.mono {V : Nat → Prop} (hk : Kp W h h1) (hv : ∀ id, h.used id → W id → V id) : Kp V h h1 := ⟨hk.next, hk.us, fun id hu hw => hk.get id hu fun e => hw (hv id hu e)⟩
theorem Kp.keeps (hk : Kp W h h1) (hv : ∀ id, W id → h.next ≤ id) : Keeps h h1 := ⟨hk.next, fun id hu => hk.get id hu fun e => by have := hv id e; have := hu.1; omega⟩
end
/-- The names that a world's calls write. -/
def WN.own (md : Bool) (n : WN) (id : Nat) : Prop := id = n.p ∨ ((n.a < id ∧ id < n.a + 8) ∨ id = n.a + 9 ∨ id = n.B ∨ id = n.E) ∨ (md = true ∧ (id = n.o ∨ id = n.t ∨ id = n.q))
/-- All names of a world. -/
def WN.all (md : Bool) (n : WN) (id : Nat) : Prop := id = n.p ∨ id = n.l ∨ ((n.a < id ∧ id < n.a + 8) ∨ id = n.a + 9 ∨ id = n.a + 10 ∨ id = n.B ∨ id = n.E) ∨ (md = true ∧ (id = n.o ∨ id = n.t ∨ id = n.q))
theorem WN.own_all {md : Bool} {n : WN} {id : Nat} (h : n.own md id) : n.all md id := by
  rcases h with h | h | h
  · exact .inl h
  · exact .inr (.inr (.inl (by omega)))
  · exact .inr (.inr (.inr h))
theorem WAt.used {md : Bool} {h : AHeap} {n : WN} {s : WS} (hw : WAt md h n s) (hu : ∀ id x, h.get id = some x → h.used id) : ∀ id, n.all md id → h.used id := fun id hi => by
  have hs := hw.sd
  have hd := hw.dk
  have hk := hw.ks
  rcases hi with rfl | rfl | hi | ⟨hm, rfl | rfl | rfl⟩
  · exact hu _ _ hs.pw
  · cases md with
    | true => exact hu _ _ (hw.lk.id rfl).cells
    | false => exact hu _ _ (hw.lk.re rfl)
  · have : id = n.B ∨ id = n.a + 1 ∨ id = n.a + 2 ∨ id = n.a + 3 ∨ id = n.a + 4 ∨ id = n.a + 5 ∨ id = n.a + 6 ∨ id = n.a + 7 ∨ id = n.E ∨ id = n.a + 9 ∨ id = n.a + 10 := by omega
    rcases this with rfl | rfl | rfl | rfl | rfl | rfl | rfl | rfl | rfl | rfl | rfl
    · exact hu _ _ hs.bl
    · exact hu _ _ hs.ob
    · exact hu _ _ hs.wt
    · exact hu _ _ hs.tr
    · exact hu _ _ hd.ob
    · exact hu _ _ hd.wt
    · exact hu _ _ hd.tr
    · exact hu _ _ hw.ct
    · exact hu _ _ hk.tl
    · exact hu _ _ hk.ob
    · exact hu _ _ hw.w
  all_goals
    obtain ⟨q0, q1, q2, q3⟩ := hw.lk.id hm
    first | exact hu _ _ q1 | exact hu _ _ q2 | exact hu _ _ q3
theorem WAt.kp {W : Nat → Prop} {md : Bool} {h h' : AHeap} {n : WN} {s : WS} (hw : WAt md h n s) (hu : ∀ id, n.all md id → h.used id) (hk : Kp W h h') (hd : ∀ id, n.all md id → ¬ W id) : WAt md h' n s := by
  have g : ∀ id, n.all md id → h'.get id = h.get id := fun id hi => hk.get id (hu id hi) (hd id hi)
  have ga : ∀ i, 0 < i ∧ i < 11 ∧ i ≠ 8 → h'.get (n.a + i) = h.get (n.a + i) := fun i hi => g _ (.inr (.inr (.inl (by omega))))
  have gB : h'.get n.B = h.get n.B := g _ (.inr (.inr (.inl (by omega))))
  have gE : h'.get n.E = h.get n.E := g _ (.inr (.inr (.inl (by omega))))
  have g0 := g n.p (.inl rfl)
  refine ⟨hw.sd.same g0 (ga 1 (by omega)) gB (ga 2 (by omega)) (ga 3 (by omega)), hw.dk.same g0 (ga 4 (by omega)) (ga 5 (by omega)) (ga 6 (by omega)), (ga 7 (by omega)).trans hw.ct, hw.ks.same (ga 9 (by omega)) gE, (ga 10 (by omega)).trans hw.w, hw.lk.same (g _ (.inr (.inl rfl))) fun e => ⟨g _ (.inr (.inr (.inr ⟨e, .inl rfl⟩))), g _ (.inr (.inr (.inr ⟨e, .inr (.inl rfl)⟩))), g _ (.inr (.inr (.inr ⟨e, .inr (.inr rfl)⟩)))⟩, hw.op, hw.ol, hw.oo, Nat.le_trans hw.nx hk.next, hw.oB, ⟨Nat.lt_of_lt_of_le hw.nB.1 hk.next, Nat.lt_of_lt_of_le hw.nB.2 hk.next⟩⟩
/-- New objects alone. -/
theorem WAt.new {md : Bool} {h h' : AHeap} {n : WN} {s : WS} (hw : WAt md h n s) (hu : ∀ id, n.all md id → h.used id) (hk : Kp (fun _ => False) h h') : WAt md h' n s := hw.kp hu hk fun _ _ h => h
theorem kp_sd {md : Bool} {h : AHeap} (n : WN) (w : PwS) (x : SdS) : Kp (n.own md) h (sdPut n.sdN w x h) := by
  unfold sdPut
  refine Kp.setW (Kp.setW (Kp.setW (Kp.setW (Kp.setW Kp.refl (.inl rfl) _) (.inr (.inl ?_)) _) (.inr (.inl ?_)) _) (.inr (.inl ?_)) _) (.inr (.inl ?_)) _ <;> dsimp only <;> omega
theorem kp_pw {md : Bool} {h : AHeap} (n : WN) (w : PwS) : Kp (n.own md) h (h.set n.p (some (.mem 4 [w.row]))) := Kp.setW Kp.refl (.inl rfl) _
end Go.Proofs.Ytjehfcjfnmcjcaa


namespace Go.Proofs.Ytjehfcjfnmcjcaa
open Go Go.Abs

theorem pairB_len (p : Pr) : (pairB p).length = 16 := by simp [pairB]
/-- What is summed for a leaf, for a node. -/
def leafK (b : Bs) : Bs := 0 :: b
def nodeK (a b : Pr) : Bs := 1 :: (pairB a ++ pairB b)
def sumP (S : List Bs) (k : Bs) : Pr := (eees, (sumN S k : Int))
theorem sumS_le (S : List Bs) (k : Bs) : (sumS S k).length ≤ S.length + 1 := by unfold sumS; split <;> simp
theorem hp_ext {h k : AHeap} (h1 : ∀ i, h.get i = k.get i) (h2 : h.next = k.next) (h3 : ∀ i, h.gap i = k.gap i) : h = k := by
  cases h; cases k
  simp only at h1 h2 h3
  rw [funext h1, h2, funext h3]
theorem set_none {h : AHeap} {s : Nat} (hs : h.get s = none) : h.set s none = h :=
  hp_ext (fun i => by rw [get_set]; split; · rename_i e; rw [e, hs]
                      · rfl) rfl fun _ => rfl
/-- By either lock (true: an ideal one that summed S): a sum, what was summed then, the object of it. -/
def gP (md : Bool) (S : List Bs) (k : Bs) : Pr := match md with | true => sumP S k | false => digestF k
def gS (md : Bool) (S : List Bs) (k : Bs) : List Bs := match md with | true => sumS S k | false => S
def gO (md : Bool) (S : List Bs) : Option AObj := match md with | true => some (.map (encM S)) | false => none
theorem gS_le (md : Bool) (S : List Bs) (k : Bs) : (gS md S k).length ≤ S.length + 1 := by
  cases md
  · exact Nat.le_succ _
  · exact sumS_le S k
/-- Either lock at l. -/
structure GAt (md : Bool) (h : AHeap) (l s : Nat) (S : List Bs) : Prop where
  id : md = true → ∃ o t g L, IdAt h l o t s g L S
  re : md = false → h.get l = some (.mem 5 [reC])
  sm : h.get s = gO md S
  ls : s < h.next
  ll : l < h.next
theorem GAt.ne {md : Bool} {h : AHeap} {l s : Nat} {S : List Bs} (hl : GAt md h l s S) : l ≠ s := by
  rintro rfl
  cases md with
  | true => obtain ⟨o, t, g, L, q, q1⟩ := hl.id rfl; rw [q1.sums] at q; cases q
  | false => have := hl.re rfl; rw [hl.sm] at this; cases this
structure GLt (md : Bool) (h : AHeap) (l s : Nat) (S : List Bs) : Prop where
  a1 : l < h.next
  a2 : s < h.next
  a3 : h.get s = gO md S
  a4 : l ≠ s
theorem GAt.lt {md : Bool} {h : AHeap} {l s : Nat} {S : List Bs} (hl : GAt md h l s S) : GLt md h l s S := ⟨hl.ll, hl.ls, hl.sm, hl.ne⟩
theorem GAt.frame {md : Bool} {h h' : AHeap} {l s : Nat} {S S' : List Bs} (hl : GAt md h l s S) (hu : ∀ id x, h.get id = some x → h.used id) (hk : KeepsB [s] h h') (hs : h'.get s = gO md S') : GAt md h' l s S' := by
  refine ⟨fun e => ?_, fun e => ?_, hs, Nat.lt_of_lt_of_le hl.ls hk.1, Nat.lt_of_lt_of_le hl.ll hk.1⟩
  · obtain ⟨o, t, g, L, q0, q1, q2, q3⟩ := hl.id e
    subst e
    have d1 : o ≠ s := by rintro rfl; rw [q1] at q3; cases q3
    have d2 : t ≠ s := by rintro rfl; rw [q2] at q3; cases q3
    exact ⟨o, t, g, L, (hk.2 l (hu _ _ q0) (by simpa using hl.ne)).trans q0, ⟨(hk.2 o (hu _ _ q1) (by simpa using d1)).trans q1, (hk.2 t (hu _ _ q2) (by simpa using d2)).trans q2, hs⟩⟩
  · have q0 := hl.re e
    exact (hk.2 l (hu _ _ q0) (by simpa using hl.ne)).trans q0
theorem GAt.ext {md : Bool} {h : AHeap} {l s : Nat} {S : List Bs} (hl : GAt md h l s S) (_hu : ∀ id x, h.get id = some x → h.used id) (S' : List Bs) : Ext h (h.set s (gO md S')) := by
  cases md with
  | true => exact Ext.set (x := .map _) Ext.refl (Nm.old hl.sm) (clo_encM _)
  | false => rw [show gO false S' = none from rfl, set_none hl.sm]; exact Ext.refl
attribute [local irreducible] digestF
/-- The leaves' sums from node k on. -/
def lfF (md : Bool) : List Bs → Nat → List Pr → List Bs → List Pr × List Bs
  | [], _, N, S => (N, S)
  | b :: r, k, N, S => lfF md r (k + 1) (N.set k (gP md S (leafK b))) (gS md S (leafK b))
def kidK (N : List Pr) (i : Nat) : Bs := nodeK (N.getD (2 * i) (0, 0)) (N.getD (2 * i + 1) (0, 0))
/-- The sums of nodes i, i - 1, .., 1. -/
def upF (md : Bool) : Nat → List Pr → List Bs → List Pr × List Bs
  | 0, N, S => (N, S)
  | i + 1, N, S => upF md i (N.set (i + 1) (gP md S (kidK N (i + 1)))) (gS md S (kidK N (i + 1)))
def buildF (md : Bool) (lv : List Bs) (S : List Bs) : List Pr × List Bs :=
  upF md (lv.length - 1) (lfF md lv lv.length (List.replicate (2 * lv.length) (0, 0)) S).1 (lfF md lv lv.length (List.replicate (2 * lv.length) (0, 0)) S).2
theorem lfF_len (md : Bool) : ∀ (lv : List Bs) (k : Nat) (N : List Pr) (S : List Bs), (lfF md lv k N S).1.length = N.length ∧ (lfF md lv k N S).2.length ≤ S.length + lv.length
  | [], _, _, _ => ⟨rfl, Nat.le_refl _⟩
  | b :: r, k, N, S => by
    have h1 := lfF_len md r (k + 1) (N.set k (gP md S (leafK b))) (gS md S (leafK b))
    have h2 := gS_le md S (leafK b)
    simp only [lfF, List.length_set, List.length_cons] at *
    omega
theorem upF_len (md : Bool) : ∀ (i : Nat) (N : List Pr) (S : List Bs), (upF md i N S).1.length = N.length ∧ (upF md i N S).2.length ≤ S.length + i
  | 0, _, _ => ⟨rfl, Nat.le_refl _⟩
  | i + 1, N, S => by
    have h1 := upF_len md i (N.set (i + 1) (gP md S (kidK N (i + 1)))) (gS md S (kidK N (i + 1)))
    have h2 := gS_le md S (kidK N (i + 1))
    simp only [upF, List.length_set] at *
    omega

end Go.Proofs.Ytjehfcjfnmcjcaa


namespace Go.Proofs.Ytjehfcjfnmcjcaa
open Go Go.Abs

def lfAt (n a i : Int) : Int := n * 32 + a * (n * 64) + i * 32
def ndAt (n a i : Int) : Int := n * 32 + a * (n * 64) + n * 32 + i * 16
/-- All names, and the one where the sums are (or nothing is). -/
def WN.nm (md : Bool) (n : WN) (id : Nat) : Prop := n.all md id ∨ id = n.q
structure WG (md : Bool) (h : AHeap) (n : WN) (s : WS) : Prop where
  w : WAt md h n s
  us : ∀ id, n.nm md id → h.used id
  qn : md = false → h.get n.q = none
theorem WAt.same {md : Bool} {h h' : AHeap} {n : WN} {s : WS} (hw : WAt md h n s) (g : ∀ id, n.all md id → h'.get id = h.get id) (hx : h.next ≤ h'.next) : WAt md h' n s := by
  have ga : ∀ i, 0 < i ∧ i < 11 ∧ i ≠ 8 → h'.get (n.a + i) = h.get (n.a + i) := fun i hi => g _ (.inr (.inr (.inl (by omega))))
  have gB : h'.get n.B = h.get n.B := g _ (.inr (.inr (.inl (by omega))))
  have gE : h'.get n.E = h.get n.E := g _ (.inr (.inr (.inl (by omega))))
  have g0 := g n.p (.inl rfl)
  exact ⟨hw.sd.same g0 (ga 1 (by omega)) gB (ga 2 (by omega)) (ga 3 (by omega)), hw.dk.same g0 (ga 4 (by omega)) (ga 5 (by omega)) (ga 6 (by omega)), (ga 7 (by omega)).trans hw.ct, hw.ks.same (ga 9 (by omega)) gE, (ga 10 (by omega)).trans hw.w, hw.lk.same (g _ (.inr (.inl rfl))) fun e => ⟨g _ (.inr (.inr (.inr ⟨e, .inl rfl⟩))), g _ (.inr (.inr (.inr ⟨e, .inr (.inl rfl)⟩))), g _ (.inr (.inr (.inr ⟨e, .inr (.inr rfl)⟩)))⟩, hw.op, hw.ol, hw.oo, Nat.le_trans hw.nx hx, hw.oB, ⟨Nat.lt_of_lt_of_le hw.nB.1 hx, Nat.lt_of_lt_of_le hw.nB.2 hx⟩⟩
theorem WAt.lt {md : Bool} {h : AHeap} {n : WN} {s : WS} (hw : WAt md h n s) {id : Nat} (hi : n.all md id) : id < h.next := by
  have h1 := hw.op
  have h2 := hw.ol
  have h3 := hw.nx
  have h4 := hw.nB
  rcases hi with rfl | rfl | hi | ⟨e, hi⟩
  · omega
  · omega
  · omega
  · have := hw.oo e
    rcases hi with rfl | rfl | rfl <;> omega
theorem WAt.live {md : Bool} {h : AHeap} {n : WN} {s : WS} (hw : WAt md h n s) {id : Nat} (hi : n.all md id) : ∃ x, h.get id = some x := by
  have hs := hw.sd
  have hd := hw.dk
  have hk := hw.ks
  rcases hi with rfl | rfl | hi | ⟨hm, rfl | rfl | rfl⟩
  · exact ⟨_, hs.pw⟩
  · cases md with
    | true => exact ⟨_, (hw.lk.id rfl).cells⟩
    | false => exact ⟨_, hw.lk.re rfl⟩
  · have : id = n.B ∨ id = n.a + 1 ∨ id = n.a + 2 ∨ id = n.a + 3 ∨ id = n.a + 4 ∨ id = n.a + 5 ∨ id = n.a + 6 ∨ id = n.a + 7 ∨ id = n.E ∨ id = n.a + 9 ∨ id = n.a + 10 := by omega
    rcases this with rfl | rfl | rfl | rfl | rfl | rfl | rfl | rfl | rfl | rfl | rfl
    · exact ⟨_, hs.bl⟩
    · exact ⟨_, hs.ob⟩
    · exact ⟨_, hs.wt⟩
    · exact ⟨_, hs.tr⟩
    · exact ⟨_, hd.ob⟩
    · exact ⟨_, hd.wt⟩
    · exact ⟨_, hd.tr⟩
    · exact ⟨_, hw.ct⟩
    · exact ⟨_, hk.tl⟩
    · exact ⟨_, hk.ob⟩
    · exact ⟨_, hw.w⟩
  all_goals
    obtain ⟨q0, q1, q2, q3⟩ := hw.lk.id hm
    first | exact ⟨_, q1⟩ | exact ⟨_, q2⟩ | exact ⟨_, q3⟩
theorem WG.step {md : Bool} {h h' : AHeap} {n : WN} {s s' : WS} (hg : WG md h n s) (hw : WAt md h' n s') (hk : Kp (n.own md) h h') : WG md h' n s' :=
  ⟨hw, fun id hi => hk.us id (hg.us id hi), fun e => by
    rw [hk.get _ (hg.us _ (.inr rfl)) fun ho => ?_]
    · exact hg.qn e
    · obtain ⟨x, hx⟩ := hg.w.live (WN.own_all ho)
      rw [hg.qn e] at hx; cases hx⟩
theorem WG.kp {W : Nat → Prop} {md : Bool} {h h' : AHeap} {n : WN} {s : WS} (hg : WG md h n s) (hk : Kp W h h') (hd : ∀ id, n.nm md id → ¬ W id) : WG md h' n s :=
  ⟨hg.w.same (fun id hi => hk.get id (hg.us id (.inl hi)) (hd id (.inl hi))) hk.next, fun id hi => hk.us id (hg.us id hi), fun e => (hk.get _ (hg.us _ (.inr rfl)) (hd _ (.inr rfl))).trans (hg.qn e)⟩
theorem WG.new {md : Bool} {h h' : AHeap} {n : WN} {s : WS} (hg : WG md h n s) (hk : Kp (fun _ => False) h h') : WG md h' n s := hg.kp hk fun _ _ h => h
theorem WG.g {md : Bool} {h : AHeap} {n : WN} {s : WS} (hg : WG md h n s) : GAt md h n.l n.q s.S := by
  refine ⟨fun e => ⟨n.o, n.t, 0, s.L, hg.w.lk.id e⟩, fun e => hg.w.lk.re e, ?_, (hg.us _ (.inr rfl)).1, (hg.us _ (.inl (.inr (.inl rfl)))).1⟩
  cases md with
  | true => obtain ⟨q0, q1, q2, q3⟩ := hg.w.lk.id rfl; exact q3
  | false => exact hg.qn rfl
theorem world_NewG_ac (md : Bool) (k : Nat) (hk : isG k = true) (seed : Int) (h : AHeap) : AC Try.prog 21 [.int .i64 k, .int .u64 seed, .bool md] h
    (fun r h' => ∃ n : WN, r = .tup [.ptr (n.a + 10) 0 0, .int .i64 0] ∧ WG md h' n (ws0 k seed) ∧ (∀ id, n.nm md id → h.next ≤ id) ∧ Kp (fun id => h.next ≤ id) h h') := by
  refine AC.mono (AC.used (AC.spareC (world_New_ac md k hk seed h))) ?_
  rintro r h' ⟨⟨h1, ⟨n, rfl, hw, np, nl, no, nn, kk⟩, rfl⟩, hus, hlv⟩
  replace kk := kk h (Keeps.refl _)
  have g : ∀ id, id < h1.next → ((h1.put h1.next (.tail 0 0)).set h1.next none).get id = h1.get id := fun id hi => get_set_neE (by omega) (get_put_neE (by omega) rfl)
  have hx : h1.next ≤ ((h1.put h1.next (.tail 0 0)).set h1.next none).next := next_le_set (next_le_put (x := .tail 0 0) (Nat.le_refl _))
  have hw2 : WAt md ((h1.put h1.next (.tail 0 0)).set h1.next none) n (ws0 k seed) := hw.same (fun id hi => g id (hw.lt hi)) hx
  have hall : ∀ id, n.all md id → h.next ≤ id := fun id hi => by
    have h1 := hw.op
    have hoB := hw.oB
    rcases hi with rfl | rfl | hi | ⟨e, rfl | rfl | rfl⟩
    · exact np
    · exact nl
    · omega
    · exact (no e).1
    · exact (no e).2.1
    · exact (no e).2.2
  have kp : Kp (fun id => h.next ≤ id) h ((h1.put h1.next (.tail 0 0)).set h1.next none) := ⟨Nat.le_trans nn hx, hus, fun id hu _ => (g id (Nat.lt_of_lt_of_le hu.1 nn)).trans (kk.2 id hu)⟩
  cases md with
  | true =>
    have hqa : n.all true n.q := .inr (.inr (.inr ⟨rfl, .inr (.inr rfl)⟩))
    refine ⟨n, rfl, ⟨hw2, fun id hi => ?_, nofun⟩, fun id hi => ?_, kp⟩
    · have : n.all true id := hi.elim (fun h => h) fun e => e ▸ hqa
      obtain ⟨x, hx⟩ := hw2.live this
      exact hlv _ _ hx
    · exact hall id (hi.elim (fun h => h) fun e => e ▸ hqa)
  | false =>
    have hal : ∀ id, ({ n with q := h1.next } : WN).all false id → n.all false id := fun id hi => by
      rcases hi with rfl | rfl | hi | ⟨e, _⟩
      · exact .inl rfl
      · exact .inr (.inl rfl)
      · exact .inr (.inr (.inl hi))
      · cases e
    refine ⟨{ n with q := h1.next }, rfl, ⟨⟨hw2.sd, hw2.dk, hw2.ct, hw2.ks, hw2.w, ⟨nofun, hw2.lk.re⟩, hw2.op, hw2.ol, nofun, hw2.nx, hw2.oB, hw2.nB⟩, fun id hi => ?_, fun _ => get_set_same⟩, fun id hi => ?_, kp⟩
    · rcases hi with hi | rfl
      · obtain ⟨x, hx⟩ := hw2.live (hal id hi)
        exact hlv _ _ hx
      · exact put_used_nm (x := .tail 0 0)
    · rcases hi with hi | rfl
      · exact hall id (hal id hi)
      · exact nn
end Go.Proofs.Ytjehfcjfnmcjcaa


namespace Go.Proofs.Ytjehfcjfnmcjcaa
open Go Go.Abs

def WN.devs (n : WN) : List Nat := [n.p, n.B, n.a + 1, n.a + 2, n.a + 3, n.a + 4, n.a + 5, n.a + 6, n.a + 7, n.E, n.a + 9]
section
variable {nx : Nat} {h0 h : AHeap}
theorem phi_sd (n : WN) (w : PwS) (x : SdS) (hp : PhiW nx n.devs h0 h) : PhiW nx n.devs h0 (sdPut n.sdN w x h) := by
  unfold sdPut
  refine PhiW.setW ?_ (PhiW.setW ?_ (PhiW.setW ?_ (PhiW.setW ?_ (PhiW.setW ?_ hp)))) <;> simp [WN.devs]
end
theorem DW.named {P : Program} {N : Nat} {Φ : AHeap → Prop} {ws fs : List Nat} {K : Env → AHeap → Prop} {j : Nat} {l : List CI} {e : Env} {h : AHeap} (p : AHeap → Prop) (hp : p h) (k : ∀ h5, p h5 → DW P N Φ ws fs K j l e h5) : DW P N Φ ws fs K j l e h := k h hp
end Go.Proofs.Ytjehfcjfnmcjcaa


namespace Go.Proofs.Ytjehfcjfnmcjcaa
open Go Go.Abs

def lvOk : List Lf → Nat → Bool
  | [], _ => true
  | x :: r, i => leafIs x i && lvOk r (i + 1)
theorem lvOk_at : ∀ (lv : List Lf) (j i : Nat) (hi : i < lv.length), lvOk lv j = true → leafIs lv[i] ((j + i : Nat) : Int) = true
  | x :: r, j, 0, _, h => by simp only [lvOk, Bool.and_eq_true] at h; exact h.1
  | x :: r, j, i + 1, hi, h => by
    simp only [lvOk, Bool.and_eq_true] at h
    have := lvOk_at r (j + 1) i (by simpa using hi) h.2
    rw [show j + 1 + i = j + (i + 1) by omega] at this
    exact this
def lvB (lv : List Lf) : Bs := (lv.map leafB).flatten
theorem lvB_len : ∀ lv : List Lf, (lvB lv).length = 32 * lv.length
  | [] => rfl
  | x :: r => by
    have := lvB_len r
    simp only [lvB, List.map_cons, List.flatten_cons, List.length_append, leafB_len, List.length_cons] at this ⊢
    omega
def nodesB (N : List Pr) : Bs := (N.map pairB).flatten
theorem nodesB_len : ∀ N : List Pr, (nodesB N).length = 16 * N.length
  | [] => rfl
  | x :: r => by
    have := nodesB_len r
    simp only [nodesB, List.map_cons, List.flatten_cons, List.length_append, pairB_len, List.length_cons] at this ⊢
    omega
def WS.nodes (md : Bool) (s : WS) (lv : List Lf) : List Pr := (buildF md (lv.map leafB) s.S).1
/-- A world behind the two writes of an area. -/
def WS.areaW1 (md : Bool) (s : WS) (a : Int) (lv : List Lf) : WS := { s with S := (buildF md (lv.map leafB) s.S).2, pw := s.pw.spend, sd := s.sd.write (lfAt s.n a 0, lvB lv) s.pw.can }
def WS.areaW (md : Bool) (s : WS) (a : Int) (lv : List Lf) : WS :=
  if s.pw.can then { s.areaW1 md a lv with pw := s.pw.spend.spend, sd := (s.areaW1 md a lv).sd.write (ndAt s.n a 0, nodesB (s.nodes md lv)) s.pw.spend.can } else s.areaW1 md a lv
/-- What a world may be: sizes, steps. -/
structure WS.Fit (s : WS) (k : Nat) : Prop where
  g : isG s.n = true
  pw : s.pw.Ok k
  sd : s.sd.Ok (sizeG s.n).toNat k
  ss : s.S.length ≤ k
  ll : s.L.length ≤ k
theorem SdS.Ok.write {x : SdS} {n k : Nat} (h : x.Ok n k) {o : Wr} (ho : 0 ≤ o.1 ∧ o.1 + o.2.length ≤ n) (ok : Bool) : (x.write o ok).Ok n (k + 1) := by
  obtain ⟨h1, h2, h3, h4⟩ := h
  cases ok with
  | false => exact ⟨h1, h2, Nat.le_succ_of_le h3, Nat.le_succ_of_le h4⟩
  | true =>
    refine ⟨h1, fun y hy => ?_, by simp [SdS.write]; omega, by simp [SdS.write]; omega⟩
    simp only [SdS.write, if_true, List.mem_append, List.mem_singleton] at hy
    rcases hy with hy | rfl
    · exact h2 y hy
    · exact ho
theorem sizeG_pos {n : Int} (h : isG n = true) : sizeG n = n * 160 + 120 := by rw [sizeG, if_pos h]
end Go.Proofs.Ytjehfcjfnmcjcaa


namespace Go.Proofs.Ytjehfcjfnmcjcaa
open Go Go.Abs

def WS.row (s : WS) (a : Int) (i : Nat) : Bs := (s.sd.snap.drop (lfAt s.n a i).toNat).take 32
def WS.leaf (s : WS) (a : Int) (i : Nat) : Lf := leafD (s.row a i) i
theorem snap_lenS {s : WS} {k : Nat} (hs : s.Fit k) : s.sd.snap.length = (s.n * 160 + 120).toNat := by
  have := hs.sd.len
  rw [sizeG_pos hs.g] at this
  rw [← this]
  exact snap_len (fun o ho => by have := hs.sd.w o ho; rw [sizeG_pos hs.g] at this; omega)
end Go.Proofs.Ytjehfcjfnmcjcaa


namespace Go.Proofs.Ytjehfcjfnmcjcaa
open Go Go.Abs

/-- The way up: the sum, what was summed. -/
def ckF (md : Bool) : List Pr → Nat → Pr → List Bs → Pr × List Bs
  | [], _, p, S => (p, S)
  | x :: r, i, p, S => ckF md r (i / 2) (gP md S (if i % 2 = 1 then nodeK x p else nodeK p x)) (gS md S (if i % 2 = 1 then nodeK x p else nodeK p x))
end Go.Proofs.Ytjehfcjfnmcjcaa


namespace Go.Proofs.Ytjehfcjfnmcjcaa
open Go Go.Abs

/-- S comes behind S0: what was summed has its number still. -/
def Pre (S0 S : List Bs) : Prop := ∃ R, S = S0 ++ R
theorem Pre.refl (S : List Bs) : Pre S S := ⟨[], by simp⟩
theorem Pre.trans {A B C : List Bs} (h1 : Pre A B) (h2 : Pre B C) : Pre A C := by
  obtain ⟨R, rfl⟩ := h1; obtain ⟨R', rfl⟩ := h2; exact ⟨R ++ R', by simp⟩
theorem sumS_pre (S : List Bs) (k : Bs) : Pre S (sumS S k) := by
  unfold sumS; split
  · exact Pre.refl _
  · exact ⟨_, rfl⟩
theorem idxS_app (k : Bs) : ∀ (S R : List Bs) (m : Nat), idxS k S = some m → idxS k (S ++ R) = some m
  | [], _, _, h => by simp [idxS] at h
  | s :: S, R, m, h => by
    simp only [idxS, List.cons_append] at h ⊢
    split
    · rename_i e; rw [if_pos e] at h; exact h
    · rename_i e
      rw [if_neg e] at h
      cases hi : idxS k S with
      | none => rw [hi] at h; simp at h
      | some j => rw [hi] at h; rw [idxS_app k S R j hi]; exact h
theorem idxS_snoc (k : Bs) : ∀ (S : List Bs), idxS k S = none → idxS k (S ++ [k]) = some S.length
  | [], _ => by simp [idxS]
  | s :: S, h => by
    simp only [idxS, List.cons_append] at h ⊢
    split
    · rename_i e; rw [if_pos e] at h; cases h
    · rename_i e
      rw [if_neg e] at h
      cases hi : idxS k S with
      | none => rw [idxS_snoc k S hi]; simp
      | some j => rw [hi] at h; simp at h
/-- Behind its sum a key is there, with that number. -/
theorem sum_there (S : List Bs) (k : Bs) : ∃ m, idxS k (sumS S k) = some m ∧ sumN S k = m + 1 := by
  unfold sumS sumN
  cases hi : idxS k S with
  | some m => exact ⟨m, by simp [hi], by simp⟩
  | none => exact ⟨S.length, by simp [idxS_snoc k S hi], by simp⟩
theorem idxS_inj {a b : Bs} : ∀ {S : List Bs} {m : Nat}, idxS a S = some m → idxS b S = some m → a = b
  | [], _, h, _ => by simp [idxS] at h
  | s :: S, m, h1, h2 => by
    simp only [idxS] at h1 h2
    split at h1
    · rename_i e
      split at h2
      · rename_i e2; rw [e, e2]
      · cases h1
        cases hi : idxS b S with
        | none => rw [hi] at h2; simp at h2
        | some j => rw [hi] at h2; simp at h2
    · split at h2
      · cases h2
        cases hi : idxS a S with
        | none => rw [hi] at h1; simp at h1
        | some j => rw [hi] at h1; simp at h1
      · cases hi : idxS a S with
        | none => rw [hi] at h1; simp at h1
        | some j =>
          cases hj : idxS b S with
          | none => rw [hj] at h2; simp at h2
          | some j' =>
            rw [hi] at h1; rw [hj] at h2
            simp at h1 h2
            exact idxS_inj hi (by rw [hj]; congr 1; omega)
/-- p is k's sum, as far as S knows. -/
def IsSum (S : List Bs) (k : Bs) (p : Pr) : Prop := ∃ m, idxS k S = some m ∧ p = (eees, ((m + 1 : Nat) : Int))
theorem IsSum.pre {S S' : List Bs} {k : Bs} {p : Pr} (h : IsSum S k p) (hp : Pre S S') : IsSum S' k p := by
  obtain ⟨m, h1, h2⟩ := h; obtain ⟨R, rfl⟩ := hp
  exact ⟨m, idxS_app k S R m h1, h2⟩
theorem isSum_sum (S : List Bs) (k : Bs) : IsSum (sumS S k) k (sumP S k) := by
  obtain ⟨m, h1, h2⟩ := sum_there S k
  exact ⟨m, h1, by rw [sumP, h2]⟩
theorem IsSum.inj {S : List Bs} {a b : Bs} {p : Pr} (h1 : IsSum S a p) (h2 : IsSum S b p) : a = b := by
  obtain ⟨m, h1, rfl⟩ := h1
  obtain ⟨m', h2, e⟩ := h2
  have : m = m' := by simp at e; omega
  subst this
  exact idxS_inj h1 h2
theorem IsSum.fn {S : List Bs} {a : Bs} {p q : Pr} (h1 : IsSum S a p) (h2 : IsSum S a q) : p = q := by
  obtain ⟨m, h1, rfl⟩ := h1
  obtain ⟨m', h2, rfl⟩ := h2
  rw [h1] at h2; cases h2; rfl
theorem IsSum.rng {S : List Bs} {a : Bs} {p : Pr} (h : IsSum S a p) : p.1 = eees ∧ 0 ≤ p.2 ∧ p.2 ≤ S.length := by
  obtain ⟨m, h1, rfl⟩ := h
  have : ∀ (S : List Bs) (m : Nat), idxS a S = some m → m < S.length := by
    intro S
    induction S with
    | nil => intro m h; simp [idxS] at h
    | cons s S ih =>
      intro m h
      simp only [idxS] at h
      split at h
      · cases h; simp
      · cases hi : idxS a S with
        | none => rw [hi] at h; simp at h
        | some j => rw [hi] at h; have := ih j hi; simp at h; simp; omega
  have := this S m h1
  exact ⟨rfl, by simp; omega, by simp; omega⟩
theorem putB8_inj {v w : Int} (hv : 0 ≤ v ∧ v < 18446744073709551616) (hw : 0 ≤ w ∧ w < 18446744073709551616) (h : putB v 8 = putB w 8) : v = w := by
  have h2 : ∀ i, i < 8 → (v / 2 ^ (8 * (8 - 1 - i))) % 256 = (w / 2 ^ (8 * (8 - 1 - i))) % 256 := by
    intro i hi
    have h3 := congrArg (fun l => l[i]?) h
    simp only [putB, show ¬ ((8 : Nat) < 1 ∨ 8 < 8) by decide, if_false, List.getElem?_map, List.getElem?_range hi, Option.map_some, Option.some.injEq, byteOf] at h3
    have h4 := congrArg UInt8.toNat h3
    rw [UInt8.toNat_ofNat', UInt8.toNat_ofNat'] at h4
    have h5 := Int.emod_nonneg (v / 2 ^ (8 * (8 - 1 - i))) (show (256 : Int) ≠ 0 by decide)
    have h6 := Int.emod_lt_of_pos (v / 2 ^ (8 * (8 - 1 - i))) (show (0 : Int) < 256 by decide)
    have h7 := Int.emod_nonneg (w / 2 ^ (8 * (8 - 1 - i))) (show (256 : Int) ≠ 0 by decide)
    have h8 := Int.emod_lt_of_pos (w / 2 ^ (8 * (8 - 1 - i))) (show (0 : Int) < 256 by decide)
    omega
  have a0 := h2 0 (by decide); have a1 := h2 1 (by decide); have a2 := h2 2 (by decide); have a3 := h2 3 (by decide)
  have a4 := h2 4 (by decide); have a5 := h2 5 (by decide); have a6 := h2 6 (by decide); have a7 := h2 7 (by decide)
  simp only [Nat.reduceSub, Nat.reduceMul, Nat.sub_zero, Int.reducePow] at a0 a1 a2 a3 a4 a5 a6 a7
  omega
def Wfp (p : Pr) : Prop := (0 ≤ p.1 ∧ p.1 < 18446744073709551616) ∧ (0 ≤ p.2 ∧ p.2 < 18446744073709551616)
theorem pairB_inj {p q : Pr} (hp : Wfp p) (hq : Wfp q) (h : pairB p = pairB q) : p = q := by
  obtain ⟨h1, h2⟩ := List.append_inj h (by simp)
  exact Prod.ext (putB8_inj hp.1 hq.1 h1) (putB8_inj hp.2 hq.2 h2)
theorem nodeK_inj {a b c d : Pr} (ha : Wfp a) (hb : Wfp b) (hc : Wfp c) (hd : Wfp d) (h : nodeK a b = nodeK c d) : a = c ∧ b = d := by
  simp only [nodeK, List.cons.injEq, true_and] at h
  obtain ⟨h1, h2⟩ := List.append_inj h (by simp [pairB_len])
  exact ⟨pairB_inj ha hc h1, pairB_inj hb hd h2⟩
theorem IsSum.wf {S : List Bs} {a : Bs} {p : Pr} (h : IsSum S a p) (hS : S.length ≤ 1000000) : Wfp p := by
  obtain ⟨h1, h2, h3⟩ := h.rng
  exact ⟨by rw [h1]; decide, by omega, by omega⟩

/-- By either lock: p is k's sum, as far as S knows. -/
def IsG (md : Bool) (S : List Bs) (k : Bs) (p : Pr) : Prop := match md with | true => IsSum S k p | false => p = digestF k
theorem gS_pre (md : Bool) (S : List Bs) (k : Bs) : Pre S (gS md S k) := by
  cases md
  · exact Pre.refl _
  · exact sumS_pre S k
theorem IsG.pre {md : Bool} {S S' : List Bs} {k : Bs} {p : Pr} (h : IsG md S k p) (hp : Pre S S') : IsG md S' k p := by
  cases md
  · exact h
  · exact IsSum.pre h hp
theorem isG_sum (md : Bool) (S : List Bs) (k : Bs) : IsG md (gS md S k) k (gP md S k) := by
  cases md
  · exact rfl
  · exact isSum_sum S k
theorem IsG.fn {md : Bool} {S : List Bs} {a : Bs} {p q : Pr} (h1 : IsG md S a p) (h2 : IsG md S a q) : p = q := by
  cases md
  · exact Eq.trans h1 (Eq.symm h2)
  · exact IsSum.fn h1 h2

abbrev nd (N : List Pr) (i : Nat) : Pr := N.getD i (0, 0)
theorem nd_set {N : List Pr} {i j : Nat} {p : Pr} : nd (N.set i p) j = if i = j ∧ j < N.length then p else nd N j := by
  simp only [nd, List.getD_eq_getElem?_getD, List.getElem?_set]
  by_cases h : i = j
  · subst h
    by_cases h2 : i < N.length
    · simp [h2]
    · simp [h2]
  · simp [h]
/-- The nodes N are the tree of leaves lv, as far as S knows. -/
structure Tree (md : Bool) (S : List Bs) (lv : List Bs) (N : List Pr) : Prop where
  len : N.length = 2 * lv.length
  leaf : ∀ i (hi : i < lv.length), IsG md S (leafK lv[i]) (nd N (lv.length + i))
  node : ∀ j, 1 ≤ j → j < lv.length → IsG md S (nodeK (nd N (2 * j)) (nd N (2 * j + 1))) (nd N j)
theorem Tree.pre {md : Bool} {S S' : List Bs} {lv : List Bs} {N : List Pr} (h : Tree md S lv N) (hp : Pre S S') : Tree md S' lv N :=
  ⟨h.len, fun i hi => (h.leaf i hi).pre hp, fun j h1 h2 => (h.node j h1 h2).pre hp⟩
theorem lfF_tree (md : Bool) : ∀ (r : List Bs) (k : Nat) (N : List Pr) (S : List Bs), k + r.length ≤ N.length → Pre S (lfF md r k N S).2 ∧ (∀ j, j < k → nd (lfF md r k N S).1 j = nd N j) ∧ ∀ i (hi : i < r.length), IsG md (lfF md r k N S).2 (leafK r[i]) (nd (lfF md r k N S).1 (k + i))
  | [], _, _, S, _ => ⟨Pre.refl _, fun _ _ => rfl, fun i hi => absurd hi (by simp)⟩
  | b :: r, k, N, S, hk => by
    simp only [List.length_cons] at hk
    obtain ⟨h1, h2, h3⟩ := lfF_tree md r (k + 1) (N.set k (gP md S (leafK b))) (gS md S (leafK b)) (by simp; omega)
    simp only [lfF]
    refine ⟨(gS_pre md _ _).trans h1, fun j hj => ?_, fun i hi => ?_⟩
    · rw [h2 j (by omega), nd_set, if_neg (by omega)]
    · cases i with
      | zero =>
        rw [show k + 0 = k from rfl, h2 k (by omega), nd_set, if_pos ⟨rfl, by omega⟩]
        exact (isG_sum md S (leafK b)).pre h1
      | succ i =>
        have := h3 i (by simpa using hi)
        rw [show k + 1 + i = k + (i + 1) by omega] at this
        exact this
theorem upF_tree (md : Bool) : ∀ (i : Nat) (N : List Pr) (S : List Bs), i < N.length → Pre S (upF md i N S).2 ∧ (∀ j, i < j → nd (upF md i N S).1 j = nd N j) ∧ ∀ j, 1 ≤ j → j ≤ i → IsG md (upF md i N S).2 (nodeK (nd (upF md i N S).1 (2 * j)) (nd (upF md i N S).1 (2 * j + 1))) (nd (upF md i N S).1 j)
  | 0, _, S, _ => ⟨Pre.refl _, fun _ _ => rfl, fun j h1 h2 => absurd h1 (by omega)⟩
  | i + 1, N, S, hi => by
    obtain ⟨h1, h2, h3⟩ := upF_tree md i (N.set (i + 1) (gP md S (kidK N (i + 1)))) (gS md S (kidK N (i + 1))) (by simp; omega)
    simp only [upF]
    refine ⟨(gS_pre md _ _).trans h1, fun j hj => ?_, fun j j1 j2 => ?_⟩
    · rw [h2 j (by omega), nd_set, if_neg (by omega)]
    · by_cases e : j = i + 1
      · subst e
        rw [h2 (i + 1) (by omega), h2 (2 * (i + 1)) (by omega), h2 (2 * (i + 1) + 1) (by omega), nd_set (j := 2 * (i + 1)), if_neg (by omega), nd_set (j := 2 * (i + 1) + 1), if_neg (by omega), nd_set (j := i + 1), if_pos ⟨rfl, hi⟩]
        exact (isG_sum md S (kidK N (i + 1))).pre h1
      · exact h3 j j1 (by omega)
theorem buildF_tree (md : Bool) (lv : List Bs) (S : List Bs) (hl : 1 ≤ lv.length) : Pre S (buildF md lv S).2 ∧ Tree md (buildF md lv S).2 lv (buildF md lv S).1 := by
  have l1 := lfF_len md lv lv.length (List.replicate (2 * lv.length) (0, 0)) S
  obtain ⟨a1, a2, a3⟩ := lfF_tree md lv lv.length (List.replicate (2 * lv.length) (0, 0)) S (by simp; omega)
  unfold buildF
  generalize lfF md lv lv.length (List.replicate (2 * lv.length) (0, 0)) S = q at *
  simp only [List.length_replicate] at l1
  have l2 := upF_len md (lv.length - 1) q.1 q.2
  obtain ⟨b1, b2, b3⟩ := upF_tree md (lv.length - 1) q.1 q.2 (by omega)
  refine ⟨a1.trans b1, ⟨by omega, fun i hi => ?_, fun j h1 h2 => b3 j h1 (by omega)⟩⟩
  rw [b2 _ (by omega)]
  exact (a3 i hi).pre b1
theorem buildF_len (md : Bool) (lv : List Bs) (S : List Bs) : (buildF md lv S).1.length = 2 * lv.length ∧ (buildF md lv S).2.length ≤ S.length + 2 * lv.length := by
  have l1 := lfF_len md lv lv.length (List.replicate (2 * lv.length) (0, 0)) S
  unfold buildF
  generalize lfF md lv lv.length (List.replicate (2 * lv.length) (0, 0)) S = q at *
  simp only [List.length_replicate] at l1
  have l2 := upF_len md (lv.length - 1) q.1 q.2
  omega
/-- One top, one tree. -/
theorem Tree.one {S : List Bs} {a b : List Bs} {N M : List Pr} (hS : S.length ≤ 1000000) (hN : Tree true S a N) (hM : Tree true S b M) (hl : a.length = b.length) (ht : nd N 1 = nd M 1) : ∀ j, 1 ≤ j → j < 2 * a.length → nd N j = nd M j := by
  have wN : ∀ j, 1 ≤ j → j < 2 * a.length → Wfp (nd N j) := fun j h1 h2 => by
    by_cases h : j < a.length
    · exact (hN.node j h1 h).wf hS
    · have := hN.leaf (j - a.length) (by omega)
      rw [show a.length + (j - a.length) = j by omega] at this
      exact this.wf hS
  have wM : ∀ j, 1 ≤ j → j < 2 * a.length → Wfp (nd M j) := fun j h1 h2 => by
    by_cases h : j < a.length
    · exact (hM.node j h1 (by omega)).wf hS
    · have := hM.leaf (j - a.length) (by omega)
      rw [show b.length + (j - a.length) = j by omega] at this
      exact this.wf hS
  intro j
  induction j using Nat.strongRecOn with
  | ind j ih =>
    intro h1 h2
    by_cases e : j = 1
    · rw [e]; exact ht
    · have hp := ih (j / 2) (by omega) (by omega) (by omega)
      have k1 := hN.node (j / 2) (by omega) (by omega)
      have k2 := hM.node (j / 2) (by omega) (by omega)
      rw [hp] at k1
      obtain ⟨e1, e2⟩ := nodeK_inj (wN _ (by omega) (by omega)) (wN _ (by omega) (by omega)) (wM _ (by omega) (by omega)) (wM _ (by omega) (by omega)) (k1.inj k2)
      rcases Nat.mod_two_eq_zero_or_one j with hm | hm
      · rw [show j = 2 * (j / 2) by omega]; exact e1
      · rw [show j = 2 * (j / 2) + 1 by omega]; exact e2
/-- One row of leaves, one tree. -/
theorem Tree.same {md : Bool} {S : List Bs} {a : List Bs} {N M : List Pr} (hN : Tree md S a N) (hM : Tree md S a M) : ∀ n j, 2 * a.length - j ≤ n → 1 ≤ j → j < 2 * a.length → nd N j = nd M j := by
  intro n
  induction n with
  | zero => intro j h1 h2 h3; omega
  | succ n ih =>
    intro j h1 h2 h3
    by_cases h : j < a.length
    · have k1 := hN.node j h2 h
      have k2 := hM.node j h2 h
      rw [ih (2 * j) (by omega) (by omega) (by omega), ih (2 * j + 1) (by omega) (by omega) (by omega)] at k1
      exact k1.fn k2
    · have k1 := hN.leaf (j - a.length) (by omega)
      have k2 := hM.leaf (j - a.length) (by omega)
      rw [show a.length + (j - a.length) = j by omega] at k1 k2
      exact k1.fn k2
end Go.Proofs.Ytjehfcjfnmcjcaa


namespace Go.Proofs.Ytjehfcjfnmcjcaa
open Go Go.Abs

theorem sum_known {md : Bool} {S : List Bs} {k : Bs} {p : Pr} (h : IsG md S k p) : gP md S k = p ∧ gS md S k = S := by
  cases md with
  | true =>
    obtain ⟨m, h1, rfl⟩ := h
    exact ⟨by show sumP S k = _; rw [sumP, sumN, h1]; rfl, by show sumS S k = _; rw [sumS, h1]; rfl⟩
  | false => exact ⟨Eq.symm h, rfl⟩
theorem xor_one (k : Nat) : k ^^^ 1 = if k % 2 = 1 then k - 1 else k + 1 := by
  have h1 : (k ^^^ 1) / 2 = k / 2 := by rw [Nat.xor_div_two]; simp
  have h2 : (k ^^^ 1) % 2 = (k + 1) % 2 := by
    have h3 := Nat.testBit_xor k 1 0
    simp only [Nat.testBit_zero] at h3
    rcases Nat.mod_two_eq_zero_or_one k with h | h <;> rcases Nat.mod_two_eq_zero_or_one (k ^^^ 1) with h' | h' <;> simp [h, h'] at h3 <;> omega
  split <;> omega
theorem upL_len (N : List Pr) : ∀ (e i : Nat), i < 2 ^ e → (upL N (2 ^ e + i)).length = e
  | 0, i, h => by
    have : i = 0 := by omega
    subst this; rw [upL_one (by simp)]; rfl
  | e + 1, i, h => by
    have hp : 2 ^ (e + 1) = 2 * 2 ^ e := by rw [Nat.pow_succ]; omega
    have hpos : 0 < 2 ^ e := Nat.two_pow_pos e
    rw [upL_more (by omega), List.length_cons, show (2 ^ (e + 1) + i) / 2 = 2 ^ e + i / 2 by omega, upL_len N e (i / 2) (by omega)]
/-- Its own neighbours lead to the top, and nothing new is summed. -/
theorem ck_up {md : Bool} {S : List Bs} {lv : List Bs} {N : List Pr} (hT : Tree md S lv N) : ∀ (e i : Nat), i < 2 ^ e → 2 ^ e + i < 2 * lv.length → ckF md (upL N (2 ^ e + i)) i (nd N (2 ^ e + i)) S = (nd N 1, S)
  | 0, i, h, _ => by
    have : i = 0 := by omega
    subst this; rw [upL_one (by simp)]; rfl
  | e + 1, i, h, hk => by
    have hp : 2 ^ (e + 1) = 2 * 2 ^ e := by rw [Nat.pow_succ]; omega
    have hpos : 0 < 2 ^ e := Nat.two_pow_pos e
    rw [upL_more (by omega), ckF]
    have hd : (2 ^ (e + 1) + i) / 2 = 2 ^ e + i / 2 := by omega
    have key : (if i % 2 = 1 then nodeK (N.getD ((2 ^ (e + 1) + i) ^^^ 1) (0, 0)) (nd N (2 ^ (e + 1) + i)) else nodeK (nd N (2 ^ (e + 1) + i)) (N.getD ((2 ^ (e + 1) + i) ^^^ 1) (0, 0))) = nodeK (nd N (2 * (2 ^ e + i / 2))) (nd N (2 * (2 ^ e + i / 2) + 1)) := by
      rw [xor_one]
      split
      · rw [if_pos (by omega), show 2 ^ (e + 1) + i - 1 = 2 * (2 ^ e + i / 2) by omega, show 2 ^ (e + 1) + i = 2 * (2 ^ e + i / 2) + 1 by omega]
      · rw [if_neg (by omega), show 2 ^ (e + 1) + i = 2 * (2 ^ e + i / 2) by omega]
    rw [key]
    obtain ⟨k1, k2⟩ := sum_known (hT.node (2 ^ e + i / 2) (by omega) (by omega))
    rw [k1, k2, hd]
    exact ck_up hT e (i / 2) (by omega) (by omega)
theorem Tree.wf {S : List Bs} {lv : List Bs} {N : List Pr} (hT : Tree true S lv N) (hS : S.length ≤ 1000000) {j : Nat} (h1 : 1 ≤ j) (h2 : j < 2 * lv.length) : Wfp (nd N j) := by
  by_cases h : j < lv.length
  · exact (hT.node j h1 h).wf hS
  · have := hT.leaf (j - lv.length) (by omega)
    rw [show lv.length + (j - lv.length) = j by omega] at this
    exact this.wf hS
theorem ck_tree {md : Bool} {S : List Bs} {lv : List Bs} {N : List Pr} (hT : Tree md S lv N) {e : Nat} (he : lv.length = 2 ^ e) {i : Nat} (hi : i < lv.length) : ckF md (upL N (2 ^ e + i)) i (gP md S (leafK lv[i])) (gS md S (leafK lv[i])) = (nd N 1, S) := by
  obtain ⟨k1, k2⟩ := sum_known (hT.leaf i hi)
  rw [k1, k2, he]
  exact ck_up hT e i (by omega) (by omega)
end Go.Proofs.Ytjehfcjfnmcjcaa


namespace Go.Proofs.Ytjehfcjfnmcjcaa
open Go Go.Abs

/-- The nodes that stand there. -/
def WS.ndF (s : WS) (a : Int) (j : Nat) : Pr := pairF ((s.sd.snap.drop (ndAt s.n a j).toNat).take 16)
def WS.nds (s : WS) (a : Int) : List Pr := (List.range (2 * s.n.toNat)).map (s.ndF a)
def WS.oneQ (s : WS) (a : Int) (i : Nat) : List Pr := upL (s.nds a) (s.n.toNat + i)
def WS.oneC (md : Bool) (s : WS) (a : Int) (i : Nat) : Pr × List Bs := ckF md (s.oneQ a i) i (gP md s.S (leafK (s.row a i))) (gS md s.S (leafK (s.row a i)))
def WS.oneS (md : Bool) (s : WS) (a : Int) (i : Nat) : WS := if s.pw.gone then s else { s with S := (s.oneC md a i).2 }
def WS.oneE (md : Bool) (s : WS) (a : Int) (i : Nat) (top : Pr) : Int := if s.pw.gone then 7 else if (s.oneC md a i).1 = top ∧ leafG (s.row a i) i = true then 0 else 3
def WS.oneL (md : Bool) (s : WS) (a : Int) (i : Nat) (top : Pr) : Lf := if s.oneE md a i top = 0 then s.leaf a i else lf0
theorem oneQ_len {s : WS} {k : Nat} (hs : s.Fit k) (a : Int) (i : Nat) (hi : (i : Int) < s.n) : ∃ e, s.n.toNat = 2 ^ e ∧ (s.oneQ a i).length = e ∧ e ≤ 4 := by
  have hg := isG_cases hs.g
  have : s.n.toNat = 2 ^ 2 ∨ s.n.toNat = 2 ^ 3 ∨ s.n.toNat = 2 ^ 4 := by omega
  rcases this with h | h | h
  · exact ⟨2, h, by rw [WS.oneQ, h]; exact upL_len _ _ _ (by omega), by omega⟩
  · exact ⟨3, h, by rw [WS.oneQ, h]; exact upL_len _ _ _ (by omega), by omega⟩
  · exact ⟨4, h, by rw [WS.oneQ, h]; exact upL_len _ _ _ (by omega), by omega⟩
end Go.Proofs.Ytjehfcjfnmcjcaa


namespace Go.Proofs.Ytjehfcjfnmcjcaa
open Go Go.Abs

theorem x64_rng (a b : Int) : 0 ≤ x64 a b ∧ x64 a b < 18446744073709551616 := by
  have h1 : x64 a b = (((BitVec.ofInt 64 a ^^^ BitVec.ofInt 64 b).toNat : Nat) : Int) := by
    show IntKind.u64.wrap (((BitVec.ofInt 64 a ^^^ BitVec.ofInt 64 b).toNat : Nat) : Int) = _
    have := (BitVec.ofInt 64 a ^^^ BitVec.ofInt 64 b).isLt
    exact IntWalk.u64_in _ (by omega)
  have := (BitVec.ofInt 64 a ^^^ BitVec.ofInt 64 b).isLt
  omega
theorem stepF_wf (s m : Pr) : Wfp (stepF s m) := ⟨x64_rng _ _, x64_rng _ _⟩
theorem steps_wf : ∀ (l : List Bs) (s : Pr), Wfp s → Wfp (l.foldl sumS6 s)
  | [], _, h => h
  | r :: l, s, _ => steps_wf l _ (stepF_wf s (pairF r))
theorem digestF_wf (p : Bs) : Wfp (digestF p) := by
  rw [digestF_S]
  exact steps_wf _ _ ⟨⟨by decide, by decide⟩, ⟨by decide, by decide⟩⟩
theorem IsG.wf {md : Bool} {S : List Bs} {a : Bs} {p : Pr} (h : IsG md S a p) (hS : S.length ≤ 1000000) : Wfp p := by
  cases md with
  | true => exact IsSum.wf h hS
  | false => rw [show p = digestF a from h]; exact digestF_wf a
/-- So many bytes from a place on. -/
def sub (b : Bs) (o k : Nat) : Bs := (b.drop o).take k
theorem layO_get {b : Bs} {x : Wr} (h : x.1.toNat + x.2.length ≤ b.length) (j : Nat) : (layO b x)[j]? = if x.1.toNat ≤ j ∧ j < x.1.toNat + x.2.length then x.2[j - x.1.toNat]? else b[j]? := by
  have hm : min x.2.length (b.length - x.1.toNat) = x.2.length := by omega
  have ht : min x.1.toNat b.length = x.1.toNat := by omega
  rw [layO, hm, List.take_length]
  simp only [List.getElem?_append, List.length_append, List.length_take, List.getElem?_take, List.getElem?_drop, ht]
  by_cases h1 : j < x.1.toNat
  · rw [if_pos (by omega), if_pos h1, if_pos h1, if_neg (by omega)]
  · by_cases h2 : j < x.1.toNat + x.2.length
    · rw [if_pos h2, if_neg h1, if_pos (by omega)]
    · rw [if_neg h2, if_neg (by omega)]
      congr 1; omega
theorem sub_in {b : Bs} {x : Wr} (h : x.1.toNat + x.2.length ≤ b.length) {o k : Nat} (h1 : x.1.toNat ≤ o) (h2 : o + k ≤ x.1.toNat + x.2.length) : sub (layO b x) o k = sub x.2 (o - x.1.toNat) k := by
  apply List.ext_getElem?; intro j
  simp only [sub, List.getElem?_take, List.getElem?_drop]
  split
  · rw [layO_get h, if_pos (by omega), show o + j - x.1.toNat = o - x.1.toNat + j by omega]
  · rfl
theorem sub_out {b : Bs} {x : Wr} (h : x.1.toNat + x.2.length ≤ b.length) {o k : Nat} (h1 : o + k ≤ x.1.toNat ∨ x.1.toNat + x.2.length ≤ o) : sub (layO b x) o k = sub b o k := by
  apply List.ext_getElem?; intro j
  simp only [sub, List.getElem?_take, List.getElem?_drop]
  split
  · rw [layO_get h, if_neg (by omega)]
  · rfl
theorem WS.row_sub (s : WS) (a : Int) (i : Nat) : s.row a i = sub s.sd.snap (lfAt s.n a i).toNat 32 := rfl
theorem WS.nd_sub (s : WS) (a : Int) (j : Nat) : s.ndF a j = pairF (sub s.sd.snap (ndAt s.n a j).toNat 16) := rfl

theorem areaW_n (md : Bool) (s : WS) (a : Int) (lv : List Lf) : (s.areaW md a lv).n = s.n := by unfold WS.areaW; split <;> rfl
theorem areaW_S (md : Bool) (s : WS) (a : Int) (lv : List Lf) : (s.areaW md a lv).S = (buildF md (lv.map leafB) s.S).2 := by unfold WS.areaW; split <;> rfl
theorem areaW_snap (md : Bool) {s : WS} (a : Int) (lv : List Lf) (hc : s.pw.can = true) (hc2 : s.pw.spend.can = true) : (s.areaW md a lv).sd.snap = layO (layO s.sd.snap (lfAt s.n a 0, lvB lv)) (ndAt s.n a 0, nodesB (s.nodes md lv)) := by
  simp [WS.areaW, WS.areaW1, SdS.write, hc, hc2, SdS.snap, List.foldl_append]
theorem nodes_len (md : Bool) (s : WS) (lv : List Lf) : (s.nodes md lv).length = 2 * lv.length := by
  have := (buildF_len md (lv.map leafB) s.S).1
  rwa [List.length_map] at this
section
variable {md : Bool} {s : WS} {k : Nat} {a : Int} {lv : List Lf}
theorem areaW_row2 (hs : s.Fit k) (hc : s.pw.can = true) (hc2 : s.pw.spend.can = true) (ha : 0 ≤ a ∧ a < 2) (hl : (lv.length : Int) = s.n) (b : Int) (hb : 0 ≤ b ∧ b < 2) (hne : b ≠ a) (i : Nat) (hi : i < lv.length) : (s.areaW md a lv).row b i = s.row b i := by
  have hg := isG_cases hs.g
  have hsl := snap_lenS hs
  have hlb := lvB_len lv
  have hnb := nodesB_len (s.nodes md lv)
  rw [nodes_len] at hnb
  have hc' : (a = 0 ∧ b = 1) ∨ (a = 1 ∧ b = 0) := by omega
  rw [WS.row_sub, areaW_n, areaW_snap md a lv hc hc2, WS.row_sub]
  have e1 : (lfAt s.n a 0).toNat + (lvB lv).length ≤ s.sd.snap.length := by unfold lfAt; rcases hc' with ⟨rfl, rfl⟩ | ⟨rfl, rfl⟩ <;> omega
  have e2 : (layO s.sd.snap (lfAt s.n a 0, lvB lv)).length = s.sd.snap.length := layO_len _ _ (by dsimp only; omega)
  rw [sub_out (by rw [e2]; dsimp only; unfold ndAt; rcases hc' with ⟨rfl, rfl⟩ | ⟨rfl, rfl⟩ <;> omega) (by dsimp only; unfold lfAt ndAt; rcases hc' with ⟨rfl, rfl⟩ | ⟨rfl, rfl⟩ <;> omega), sub_out (by dsimp only; exact e1) (by dsimp only; unfold lfAt; rcases hc' with ⟨rfl, rfl⟩ | ⟨rfl, rfl⟩ <;> omega)]
end

/-- A top is leaves', as far as S knows. -/
def TopOf (md : Bool) (S : List Bs) (lv : List Lf) (top : Pr) : Prop := ∃ N, Tree md S (lv.map leafB) N ∧ nd N 1 = top
theorem TopOf.pre {md : Bool} {S S' : List Bs} {lv : List Lf} {top : Pr} (h : TopOf md S lv top) (hp : Pre S S') : TopOf md S' lv top := by
  obtain ⟨N, hT, ht⟩ := h; exact ⟨N, hT.pre hp, ht⟩
theorem upL_congr {A B : List Pr} {m : Nat} (h : ∀ j, 2 ≤ j → j < 2 * m → nd A j = nd B j) : ∀ (n k : Nat), k ≤ n → k < 2 * m → upL A k = upL B k
  | 0, k, hn, _ => by rw [upL_one (by omega), upL_one (by omega)]
  | n + 1, k, hn, hk => by
    by_cases h1 : k ≤ 1
    · rw [upL_one h1, upL_one h1]
    · have hx := xor1_lt k m hk
      have h2 : 2 ≤ k ^^^ 1 := by rw [xor_one]; split <;> omega
      rw [upL_more (l := A) (k := k) (by omega), upL_more (l := B) (k := k) (by omega), upL_congr h n (k / 2) (by omega) (by omega)]
      congr 1
      exact h _ h2 hx
theorem nds_nd (s : WS) (a : Int) (j : Nat) (h : j < 2 * s.n.toNat) : nd (s.nds a) j = s.ndF a j := by
  rw [nd, WS.nds, List.getD_eq_getElem?_getD, List.getElem?_map, List.getElem?_range h]; rfl
/-- One that stands there, and its neighbours. -/
theorem one_well {md : Bool} {s : WS} {k : Nat} {a : Int} {lv : List Lf} {top : Pr} (hs : s.Fit k) (hgo : s.pw.gone = false) (hl : (lv.length : Int) = s.n) (hw : ∀ x ∈ lv, x.Wf) (hok : lvOk lv 0 = true)
    {N : List Pr} (hT : Tree md s.S (lv.map leafB) N) (ht : nd N 1 = top) (hnd : ∀ j, 1 ≤ j → j < 2 * lv.length → s.ndF a j = nd N j) (i : Nat) (hi : i < lv.length) (hr : s.row a i = leafB lv[i]) : s.oneE md a i top = 0 ∧ s.oneL md a i top = lv[i] ∧ s.oneS md a i = s := by
  have hm : lv.length = s.n.toNat := by omega
  obtain ⟨e, he, hq, _⟩ := oneQ_len hs a i (by omega)
  have hQ : s.oneQ a i = upL N (2 ^ e + i) := by
    rw [WS.oneQ, he]
    refine upL_congr (m := lv.length) (fun j h1 h2 => ?_) _ _ (Nat.le_refl _) (by omega)
    rw [nds_nd _ _ _ (by omega), hnd j (by omega) h2]
  have hC : s.oneC md a i = (top, s.S) := by
    rw [WS.oneC, hQ, hr]
    have := ck_tree hT (e := e) (by rw [List.length_map]; omega) (i := i) (by rw [List.length_map]; exact hi)
    rw [List.getElem_map] at this
    rw [this, ht]
  have hL := lvOk_at lv 0 i hi hok
  rw [Nat.zero_add] at hL
  obtain ⟨g1, g2⟩ := leafG_B _ (hw _ (List.getElem_mem hi)) i hL
  have hE : s.oneE md a i top = 0 := by rw [WS.oneE, hgo, hC, hr, g1]; simp
  refine ⟨hE, ?_, ?_⟩
  · rw [WS.oneL, if_pos hE, WS.leaf, hr, g2]
  · rw [WS.oneS, hgo, hC]; rfl
end Go.Proofs.Ytjehfcjfnmcjcaa


namespace Go.Proofs.Ytjehfcjfnmcjcaa
open Go Go.Abs

def pick (K : List Int) (i : Nat) : Int := K.getD (i % K.length) 0
end Go.Proofs.Ytjehfcjfnmcjcaa


namespace Go.Proofs.Ytjehfcjfnmcjcaa
open Go Go.Abs

/-- No fuse, power on. -/
structure PwS.Free (w : PwS) : Prop where
  g : w.gone = false
  f : w.fuse = false
theorem PwS.Free.can {w : PwS} (h : w.Free) : w.can = true := by simp [PwS.can, h.g, h.f]
theorem PwS.Free.spend {w : PwS} (h : w.Free) : w.spend.Free := by
  have h1 := h.g
  have h2 := h.f
  refine ⟨?_, ?_⟩ <;> simp [PwS.spend, h1, h2]
theorem PwS.Ok.mono {w : PwS} {k k' : Nat} (h : w.Ok k) (hk : k ≤ k') : w.Ok k' := ⟨h.l0, h.l1, h.s0, by have := h.s1; omega⟩
theorem SdS.Ok.mono {x : SdS} {n k k' : Nat} (h : x.Ok n k) (hk : k ≤ k') : x.Ok n k' := ⟨h.len, h.w, Nat.le_trans h.kw hk, Nat.le_trans h.kt hk⟩
theorem WS.Fit.mono {s : WS} {k k' : Nat} (h : s.Fit k) (hk : k ≤ k') : s.Fit k' := ⟨h.g, h.pw.mono hk, h.sd.mono hk, Nat.le_trans h.ss hk, Nat.le_trans h.ll hk⟩
theorem fit_ws0 {n : Nat} (hg : isG n = true) (seed : Int) : (ws0 n seed).Fit 0 := by
  refine ⟨hg, ⟨fun h => by simp [ws0] at h, by simp [ws0], by simp [ws0], by simp [ws0]⟩, ⟨?_, by simp [ws0, sd0], by simp [ws0, sd0], by simp [ws0, sd0]⟩, by simp [ws0], by simp [ws0]⟩
  rw [show (ws0 n seed).n = n from rfl, sizeG_pos hg]
  simp only [ws0, sd0, List.length_replicate]; omega
theorem free_ws0 (n : Nat) (seed : Int) : (ws0 n seed).pw.Free := ⟨rfl, rfl⟩
theorem row_congr {s s' : WS} (h1 : s'.sd = s.sd) (h2 : s'.n = s.n) (a : Int) (i : Nat) : s'.row a i = s.row a i := by rw [WS.row_sub, WS.row_sub, h1, h2]
theorem nd_congr {s s' : WS} (h1 : s'.sd = s.sd) (h2 : s'.n = s.n) (a : Int) (i : Nat) : s'.ndF a i = s.ndF a i := by rw [WS.nd_sub, WS.nd_sub, h1, h2]

/-- Leaves, written: all that the area's next calls need. -/
structure Laid (md : Bool) (s : WS) (a : Int) (lv : List Lf) (top : Pr) : Prop where
  f : s.pw.Free
  l : (lv.length : Int) = s.n
  w : ∀ x ∈ lv, x.Wf
  ok : lvOk lv 0 = true
  r : ∀ i (hi : i < lv.length), s.row a i = leafB lv[i]
  t : ∃ N, Tree md s.S (lv.map leafB) N ∧ nd N 1 = top ∧ ∀ j, 1 ≤ j → j < 2 * lv.length → s.ndF a j = nd N j
theorem Laid.same {md : Bool} {s s' : WS} {a : Int} {lv : List Lf} {top : Pr} (h : Laid md s a lv top) (h1 : s'.sd = s.sd) (h2 : s'.n = s.n) (h3 : s'.pw = s.pw) (h4 : Pre s.S s'.S) : Laid md s' a lv top := by
  obtain ⟨f, l, w, ok, r, N, t1, t2, t3⟩ := h
  exact ⟨h3 ▸ f, h2 ▸ l, w, ok, fun i hi => (row_congr h1 h2 a i).trans (r i hi), N, t1.pre h4, t2, fun j j1 j2 => (nd_congr h1 h2 a j).trans (t3 j j1 j2)⟩
theorem Laid.topOf {md : Bool} {s : WS} {a : Int} {lv : List Lf} {top : Pr} (h : Laid md s a lv top) : TopOf md s.S lv top := by
  obtain ⟨N, t1, t2, _⟩ := h.t
  exact ⟨N, t1, t2⟩
theorem Laid.one {md : Bool} {s : WS} {k : Nat} {a : Int} {lv : List Lf} {top : Pr} (h : Laid md s a lv top) (hs : s.Fit k) (i : Nat) (hi : i < lv.length) : s.oneE md a i top = 0 ∧ s.oneL md a i top = lv[i] ∧ s.oneS md a i = s := by
  obtain ⟨N, t1, t2, t3⟩ := h.t
  exact one_well hs h.f.g h.l h.w h.ok t1 t2 t3 i hi (h.r i hi)
theorem Laid.other {md : Bool} {s : WS} {k : Nat} {a b : Int} {lv lw : List Lf} {top : Pr} (h : Laid md s b lw top) (hs : s.Fit k) (ha : 0 ≤ a ∧ a < 2) (hb : 0 ≤ b ∧ b < 2) (hne : b ≠ a) (hl : (lv.length : Int) = s.n) : TopOf md (s.areaW md a lv).S lw top ∧ (∀ i (hi : i < lw.length), (s.areaW md a lv).row b i = leafB lw[i]) := by
  have hg := isG_cases hs.g
  have hll := h.l
  refine ⟨h.topOf.pre (by rw [areaW_S]; exact (buildF_tree md (lv.map leafB) s.S (by rw [List.length_map]; omega)).1), fun i hi => ?_⟩
  rw [areaW_row2 hs h.f.can h.f.spend.can ha hl b hb hne i (by omega)]
  exact h.r i hi
/-- A block of cells that stays. -/
structure BoxAt (h : AHeap) (id : Nat) (x : AObj) : Prop where
  u : h.used id
  g : h.get id = some x
theorem BoxAt.kp {W : Nat → Prop} {h h' : AHeap} {id : Nat} {x : AObj} (hb : BoxAt h id x) (hk : Kp W h h') (hw : ¬ W id) : BoxAt h' id x := ⟨hk.us id hb.u, (hk.get id hb.u hw).trans hb.g⟩
end Go.Proofs.Ytjehfcjfnmcjcaa


namespace Go.Abs
open Go
section
variable {P : Program} {N : Nat} {e : Env} {h : AHeap} {Φ : AHeap → Prop} {ws fs : List Nat} {K : Env → AHeap → Prop} {l : List CI} {j : Nat}
end
/-- In a drawn region: a call that leaves the heap, whatever is new in it. -/
theorem DA.callP {P : Program} {N j : Nat} {e : Env} {h : AHeap} {al ws rs fs : List Nat} {K : Env → AHeap → Prop} {l : List CI} {n0 : Nat} {d : Option Nat} {f n : Nat} {W : List Nat} {h0 : AHeap} {xs : List Opd} {g : Option (Nat × Bool)} {vs us : List AV} {r : AV} (hv : evL e xs = some us) (hg : met e g) (hs : SubL us vs) (hf : fs.contains j = false) (hw : ws.contains j = true) (ha : al.contains j = false)
    (hac : ∀ h2, Sim n0 al.length h h2 → AE P f vs h2 r h2) (k : DA P N (PhiW n W h0) n0 al ws rs fs K (j + 1) l (putR d (some r) e) h) : DA P N (PhiW n W h0) n0 al ws rs fs K j (⟨d, .call f xs, g⟩ :: l) e h := by
  refine .fx [] (fun _ => FX.call hg hv ((hac h Sim.refl).sub hs)) (fun hy => by simp [free0] at hy) (fun hy => by rw [hw] at hy; cases hy) (fun hy => by rw [ha] at hy; cases hy) (fun _ h2 h3 => FX.call hg hv ((hac h2 h3).sub hs)) (fun _ => ⟨by simp, fun _ u hu => by simp at hu⟩) (fun _ hp => hp) (fun hy => by rw [hf] at hy; cases hy) k
section
variable {P : Program} {f : Nat} {vs : List AV} {h h' h1 h2 : AHeap}
theorem Ext.trans (x1 : Ext h h1) (x2 : Ext h1 h2) : Ext h h2 := by
  have nm : ∀ id, Nm h h1 id → Nm h h2 id := fun id hn => hn.elim (fun hu => .inl (x2.used hu)) .inr
  have nm2 : ∀ id, Nm h1 h2 id → Nm h h2 id := fun id hn => by
    rcases hn with hu | ⟨x, hx⟩
    · exact .inl hu
    · rcases x1.obj id x hx with h5 | ⟨h5, _⟩
      · exact .inr ⟨x, h5⟩
      · exact nm id h5
  refine ⟨Nat.le_trans x1.next x2.next, fun id hg => x1.gap id (x2.gap id hg), fun id x hx => ?_⟩
  rcases x2.obj id x hx with h5 | ⟨h5, h6⟩
  · rcases x1.obj id x h5 with h7 | ⟨h7, h8⟩
    · exact .inl h7
    · exact .inr ⟨nm id h7, h8.mono nm⟩
  · exact .inr ⟨nm2 id h5, h6.mono nm2⟩
end
end Go.Abs


namespace Go.Proofs.Ytjehfcjfnmcjcaa
open Go Go.Abs

def openP (md : Bool) (L : List Iss) (k : Pr) (n : Nn) (head b : Bs) (tg : Pr) : Option Bs := match md with
  | true => openO L k n head b tg
  | false => gcmO k n head b tg
theorem lock_OpenW_ae {md : Bool} {h : AHeap} {l o t q : Nat} {L : List Iss} {S : List Bs} (hl : LkAt md h l o t q L S) (hL : L.length ≤ 1000000) (hd : ∀ x ∈ L, x.data.length ≤ 1000000) (k : Pr) (n : Nn) (head b : Bs) (tg : Pr) (h1 : head.length ≤ 4000) (h2 : b.length ≤ 4000) :
    AE Try.prog 128 [.ptr l 0 0, .agg (encP k), .agg (encN n), .imm 1 (head.map encB), .agg (encS b tg)] h (.tup [.imm 1 (((openP md L k n head b tg).getD []).map encB), .bool (openP md L k n head b tg).isSome]) h := by
  cases md with
  | true => exact lock_OpenI_ae (hl.id rfl) hL hd k n head b tg
  | false => exact lock_OpenR_ae (hl.re rfl) k n head b tg h1 h2
theorem xorB_back : ∀ (a f : Bs), f.length = a.length → xorB (xorB a f) f = a
  | [], [], _ => rfl
  | x :: a, y :: f, h => by
    have ih := xorB_back a f (by simpa using h)
    simp only [xorB, List.zipWith_cons_cons] at ih ⊢
    rw [ih, UInt8.xor_assoc, UInt8.xor_self, UInt8.xor_zero]
  | [], _ :: _, h => by simp at h
  | _ :: _, [], h => by simp at h
theorem gcmO_back2 (k : Pr) (n : Nn) (head d : Bs) (h1 : head.length ≤ 4000) (h2 : d.length ≤ 4000) : gcmO k n head (gcmB k n d) (gcmT k n head (gcmB k n d)) = some d := by
  rw [gcmO_T h1 (by rw [gcmB_len]; exact h2) rfl]
  congr 1
  rw [gcmB, gcmB_len, gcmB, xorB_back _ _ (flowF_len _ _)]
theorem openP_len {md : Bool} {L : List Iss} {k : Pr} {n : Nn} {head b : Bs} {tg : Pr} {d : Bs} (hd : ∀ x ∈ L, x.data.length ≤ 4000) (h : openP md L k n head b tg = some d) : d.length ≤ 4000 := by
  cases md with
  | true =>
    simp only [openP, openO, Option.map_eq_some_iff] at h
    obtain ⟨x, hx, rfl⟩ := h
    exact hd x (List.mem_of_find?_eq_some hx)
  | false =>
    simp only [openP, gcmO] at h
    split at h
    · rename_i hh
      obtain rfl := Option.some.inj h
      rw [gcmB_len]; exact hh.2.1
    · cases h
/-- Where the record of a count stands. -/
def recAt (n c : Int) : Int := n * 160 + (c % 2) * 60
theorem log_place_ae {md : Bool} {h : AHeap} {n : WN} {s : WS} (hw : WAt md h n s) (hn : isG s.n = true) (c : Int) (hc : 0 ≤ c ∧ c < 18446744073709551616) : AE Try.prog 95 [.ptr (n.a + 10) 0 0, .int .u64 c] h (.int .i64 (recAt s.n c)) h := by
  refine AE.wf fun hwf => ?_
  have hob := hw.w
  have h0 := hwf _ _ hob
  simp only [wRow] at hob
  refine AE.pureW is_log_place (by simp) ?_
  unfold c_log_place
  (refine go ?_)
  have hm : c.tmod 2 = c % 2 := Int.tmod_eq_emod_of_nonneg hc.1
  rw [hm, wrap_in (k := .i64) (n := c % 2) (by constructor <;> omega)]
  refine WL.call rfl (by first | exact True.intro | exact rfl) gSL (geom_Rec_ae s.n (c % 2) _) ?_
  have hr : recG s.n (c % 2) = recAt s.n c := by
    rw [recG, hn, recAt]
    simp
    omega
  rw [hr]
  (refine go ?_)
  refine WW.ret (PureQ.finD ?_)
  exact fz_i rfl
/-- The record that stands there, of a count, opened. -/
def WS.recOf (s : WS) (c : Int) : Bs := sub s.sd.snap (recAt s.n c).toNat 60
def openedR (md : Bool) (s : WS) (r : Rec) : Option Bs :=
  if r.e ∈ s.ks.epochs ∧ r.v / 4294967296 = s.ct.at' then openP md s.L (ofK s.ks.seed r.e) (r.e, 65535, r.v) [] r.b r.tg else none
def rootO (b : Bs) : Option Rt := if rootG b then some (rootD b) else none
set_option maxHeartbeats 1000000 in
theorem log_opened_ae {md : Bool} {h : AHeap} {n : WN} {s : WS} (hw : WAt md h n s) (hL : s.L.length ≤ 1000000) (hd : ∀ x ∈ s.L, x.data.length ≤ 4000) (hat : 0 ≤ s.ct.at') (r : Bs) (hr : r.length = 60) :
    AE Try.prog 96 [.ptr (n.a + 10) 0 0, .imm 1 (r.map encB)] h (.tup [.agg (encRt (((openedR md s (recD r)).bind rootO).getD rt0)), .bool ((openedR md s (recD r)).bind rootO).isSome]) h := by
  refine AE.wfU fun hwu => ?_
  have hob := hw.w
  have h0 := (hwu _ _ hob).1
  have hnB := hw.nB
  have hq : ∀ id, n.all md id → id < h.next := fun id hi => hw.lt hi
  simp only [wRow] at hob
  have he : 0 ≤ (recD r).e ∧ (recD r).e < 4294967296 := getB_rng _ 4 (by simp; omega) (by decide)
  have hv : 0 ≤ (recD r).v ∧ (recD r).v < 18446744073709551616 := getB_rng _ 8 (by simp; omega) (by decide)
  have hbl : (recD r).b.length = 32 := by simp [recD]; omega
  refine AE.pureW is_log_opened (by simp) ?_
  unfold c_log_opened
  (refine go ?_)
  refine WL.call rfl (by first | exact True.intro | exact rfl) gSL (root_GetRec_ae r hr _) ?_
  generalize recD r = x at *
  (repeat first | refine WL.go ?_ | refine WW.seq ?_ | refine WW.reg ?_ | refine WL.nil ?_ | refine WW.skip ?_ | refine WW.block ?_ | refine WW.exit ?_ | refine WW.condT rfl ?_ | refine WW.condF rfl ?_ | refine WL.gox ?_ | refine thenN ?_ | refine blkN ?_)
  refine WW.dregA [10] [6, 11] [6] [3, 5] [] gN (by decide +kernel) ?_
  (repeat first | refine DA.go ?_ | refine DA.goF ?_ | refine DA.new ?_ | refine DA.set ?_ | refine DA.endL ?_ | refine thenN ?_ | refine blkN ?_)
  refine DA.callP rfl (by first | exact True.intro | exact rfl) gSL rfl rfl rfl (fun h5 hs => keys_Key_ae (hw.ks.same ((hs.2 _ (by omega)).trans gE) ((hs.2 _ (by omega)).trans gE)) x.e he) ?_
  (repeat first | refine DA.go ?_ | refine DA.goF ?_ | refine DA.new ?_ | refine DA.set ?_ | refine DA.endL ?_ | refine thenN ?_ | refine blkN ?_)
  generalize hkk : (if x.e ∈ s.ks.epochs then ofK s.ks.seed x.e else (0, 0)) = kk at *
  refine WW.named (fun h5 => h5.get h.next = some (.mem 5 [encRt rt0]) ∧ h5.get (h.next + 1) = some (.mem 3 [encN (x.e, 65535, x.v)]) ∧ h5.get (h.next + 1 + 1) = some (.mem 3 [encS x.b x.tg]) ∧ h5.get (h.next + 1 + 1 + 1) = some (.mem 2 [encP kk]) ∧ h.next + 4 ≤ h5.next ∧ Keeps h h5) ⟨gH, gH, gH, gH, leN (show _ = h.next + 1 + 1 + 1 + 1 from next_setE (next_putK (by omega) (next_keepE (n := h.next + 1 + 1 + 1) gN))) (by omega), gK⟩ ?_
  rintro h5 ⟨r1, r2, r3, r4, r5, r6⟩
  have w5 : WAt md h5 n s := hw.same (fun id hi => by obtain ⟨y, hy⟩ := hw.live hi; exact r6.2 id (hwu _ _ hy)) (by omega)
  have hob5 := w5.w
  simp only [wRow] at hob5
  by_cases hm : x.e ∈ s.ks.epochs
  rotate_left
  · have hO : openedR md s x = none := by rw [openedR, if_neg (fun h => hm h.1)]
    rw [hO, decide_eq_false hm]
    (refine go ?_)
    refine WW.ret (PureQ.finD ?_)
    exact Fz.tup2 (fz_agg rfl (by simp [AV.flat, encRt])) (fz_b rfl)
  rw [decide_eq_true hm]
  rw [if_pos hm] at hkk
  (refine go ?_)
  refine DW.callS rfl (by first | exact True.intro | exact rfl) gSL rfl (nonce_Boot_ae x.e 65535 x.v hv _) ?_
  (refine go ?_)
  refine DW.callS rfl (by first | exact True.intro | exact rfl) gSL rfl (count_At_ae w5.ct) ?_
  (refine go ?_)
  (refine WW.ifB rfl (fun hz2 => ?_) (fun hz2 => ?_))
  · have hO : openedR md s x = none := by rw [openedR, if_neg (fun h => hz2 h.2)]
    rw [hO]
    (refine go ?_)
    refine WW.ret (PureQ.finD ?_)
    exact Fz.tup2 (fz_agg rfl (by simp [AV.flat, encRt])) (fz_b rfl)
  have hO : openedR md s x = openP md s.L kk (x.e, 65535, x.v) [] x.b x.tg := by rw [openedR, if_pos ⟨hm, hz2⟩, hkk]
  rw [hO]
  (refine go ?_)
  refine DW.callS rfl (by first | exact True.intro | exact rfl) gSL rfl (lock_OpenW_ae w5.lk hL (fun x hx => Nat.le_trans (hd x hx) (by omega)) kk (x.e, 65535, x.v) [] x.b x.tg (by simp) (by omega)) ?_
  cases hop : openP md s.L kk (x.e, 65535, x.v) [] x.b x.tg with
  | none =>
    (refine go ?_)
    refine WW.ret (PureQ.finD ?_)
    exact Fz.tup2 (fz_agg rfl (by simp [AV.flat, encRt])) (fz_b rfl)
  | some d =>
    have hdl := openP_len hd hop
    (refine go ?_)
    refine WL.call rfl (by first | exact True.intro | exact rfl) gSL (root_Get_ae d (by omega) _) ?_
    (refine go ?_)
    refine WW.ret (PureQ.finD ?_)
    cases hg : rootG d with
    | false =>
      exact Fz.tup2 (fz_agg (by simp [rootO, hg]) (by simp [AV.flat, encRt])) (fz_b (by simp [rootO, hg]))
    | true =>
      exact Fz.tup2 (fz_agg (by simp [rootO, hg]; exact Nat.le_refl _) (by simp [AV.flat, encRt])) (fz_b (by simp [rootO, hg]))
/-- What Get tells of a count. -/
def WS.getR (md : Bool) (s : WS) (c : Int) : Option Rt :=
  ((openedR md s (recD (s.recOf c))).bind rootO).bind fun r => if r.c = c ∧ r.n = s.n then some r else none
def WS.getE (md : Bool) (s : WS) (c : Int) : Int := if s.pw.gone then 7 else if (s.getR md c).isSome then 0 else 3
def WS.getT (md : Bool) (s : WS) (c : Int) : Rt := if s.pw.gone then rt0 else (s.getR md c).getD rt0
set_option maxHeartbeats 1000000 in
theorem log_Get_ae {md : Bool} {h : AHeap} {n : WN} {s : WS} {k : Nat} (hw : WAt md h n s) (hs : s.Fit k) (hk : k ≤ 9000) (hd : ∀ x ∈ s.L, x.data.length ≤ 4000) (hat : 0 ≤ s.ct.at') (c : Int) (hc : 0 ≤ c ∧ c < 18446744073709551616) :
    AE Try.prog 52 [.ptr (n.a + 10) 0 0, .int .u64 c] h (.tup [.agg (encRt (s.getT md c)), .int .i64 (s.getE md c)]) h := by
  refine AE.wfU fun hwu => ?_
  have hob := hw.w
  have h0 := (hwu _ _ hob).1
  simp only [wRow] at hob
  have hg := isG_cases hs.g
  have hll : s.sd.lasts.length = (s.n * 160 + 120).toNat := by rw [hs.sd.len, sizeG_pos hs.g]
  have hfit : ∀ o ∈ s.sd.waits, 0 ≤ o.1 ∧ o.1 + o.2.length ≤ s.sd.lasts.length := fun o ho => by have := hs.sd.w o ho; rw [sizeG_pos hs.g] at this; omega
  have hsl := snap_lenS hs
  refine AE.pureW is_log_Get (by simp) ?_
  unfold c_log_Get
  have hb : WAt md (h.put h.next (.mem 5 [encRt rt0])) n s := hw.same (fun id hi => get_put_neE (by have := hw.lt hi; omega) rfl) gLE
  (refine go ?_)
  refine DW.named (fun h1 => WAt md h1 n s ∧ h1.get h.next = some (.mem 5 [encRt rt0]) ∧ Keeps h h1 ∧ h1.next = h.next + 1) ⟨hb, gH, gK, gN⟩ ?_
  rintro h1 ⟨w1, q1, k1, n1⟩
  have hob1 := w1.w
  simp only [wRow] at hob1
  (refine go ?_)
  refine DW.callS rfl (by first | exact True.intro | exact rfl) gSL rfl (log_place_ae w1 hs.g c hc) ?_
  (refine go ?_)
  refine DW.callS rfl (by first | exact True.intro | exact rfl) gSL rfl (ssd_Read_ae w1.sd (by omega) (fun e => by rw [e] at hll; simp at hll; omega) (Nat.le_trans hs.sd.kw (by omega)) hfit (recAt s.n c) 60 (by omega)) ?_
  have hin : inB s.sd.lasts.length (recAt s.n c) 60 = true := by
    have hp : 0 ≤ recAt s.n c ∧ recAt s.n c + 60 ≤ s.n * 160 + 120 := by unfold recAt; omega
    rw [hll]; generalize recAt s.n c = X at *; simp [inB]; omega
  rw [hin, Bool.true_and]
  cases hgo : s.pw.gone with
  | true =>
    have hE : s.getE md c = 7 := by rw [WS.getE, hgo, if_pos rfl]
    have hT : s.getT md c = rt0 := by rw [WS.getT, hgo, if_pos rfl]
    rw [hE, hT]
    (refine go ?_)
    refine WW.ret (PureQ.finD ?_)
    exact Fz.tup2 (fz_agg rfl (by simp [AV.flat, encRt])) (fz_i rfl)
  | false =>
    have hE : s.getE md c = if (s.getR md c).isSome then 0 else 3 := by rw [WS.getE, hgo]; rfl
    have hT : s.getT md c = (s.getR md c).getD rt0 := by rw [WS.getT, hgo]; rfl
    rw [hE, hT]
    simp only [Bool.not_false, if_true]
    rw [show (s.sd.snap.drop (recAt s.n c).toNat).take (Int.toNat 60) = s.recOf c from rfl]
    have hrl : (s.recOf c).length = 60 := by simp only [WS.recOf, sub, List.length_take, List.length_drop, hsl, recAt]; omega
    (refine go ?_)
    refine WL.call rfl (by first | exact True.intro | exact rfl) gSL (log_opened_ae w1 (Nat.le_trans hs.ll (by omega)) hd hat (s.recOf c) hrl) ?_
    have hR : s.getR md c = ((openedR md s (recD (s.recOf c))).bind rootO).bind fun r => if r.c = c ∧ r.n = s.n then some r else none := rfl
    rw [hR]
    generalize (openedR md s (recD (s.recOf c))).bind rootO = O at *
    cases O with
    | none =>
      (refine go ?_)
      refine WW.ret (PureQ.finD ?_)
      exact Fz.tup2 (fz_agg rfl (by simp [AV.flat, encRt])) (fz_i rfl)
    | some r =>
      (refine go ?_)
      (refine DW.spB rfl (fun hz3 => ?_) (fun hz3 => ?_))
      · have hne : (if r.c = c ∧ r.n = s.n then some r else none) = none := if_neg (fun h => by simp [h.1] at hz3)
        rw [Option.bind_some, hne]
        (refine go ?_)
        refine WW.ret (PureQ.finD ?_)
        exact Fz.tup2 (fz_agg rfl (by simp [AV.flat, encRt])) (fz_i rfl)
      (refine go ?_)
      (refine WW.ifB rfl (fun hz4 => ?_) (fun hz4 => ?_))
      · have hne : (if r.c = c ∧ r.n = s.n then some r else none) = none := if_neg (fun h => by simp [h.2] at hz4)
        rw [Option.bind_some, hne]
        (refine go ?_)
        refine WW.ret (PureQ.finD ?_)
        exact Fz.tup2 (fz_agg rfl (by simp [AV.flat, encRt])) (fz_i rfl)
      · have hye : (if r.c = c ∧ r.n = s.n then some r else none) = some r := if_pos ⟨by simpa using hz3, by simpa using hz4⟩
        rw [Option.bind_some, hye]
        (refine go ?_)
        refine WW.ret (PureQ.finD ?_)
        exact Fz.tup2 (fz_agg rfl (by simp [AV.flat, encRt])) (fz_i rfl)
theorem log_GetN_ae (c : Int) (h : AHeap) : AE Try.prog 52 [.nilp, .int .u64 c] h (.tup [.agg (encRt rt0), .int .i64 1]) h := by
  refine AE.pureW is_log_Get (by simp) ?_
  unfold c_log_Get
  (refine go ?_)
  refine WW.ret (PureQ.finD ?_)
  exact Fz.tup2 (fz_agg rfl (by simp [AV.flat, encRt])) (fz_i rfl)
end Go.Proofs.Ytjehfcjfnmcjcaa



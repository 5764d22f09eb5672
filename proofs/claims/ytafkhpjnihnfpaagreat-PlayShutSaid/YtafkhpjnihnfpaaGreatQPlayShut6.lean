/- What the statement's proof needs, part 6. -/
import Derived.Test.YtafkhpjnihnfpaaGreatQPlayShut5
set_option linter.all false
set_option maxRecDepth 100000
namespace Go.Proofs.YtafkhpjnihnfpaaGreat
open Go Go.Abs

def c_law29_PlayShut : CC := .seq (.reg [⟨some 6, .mov (.c (.bool false)), none⟩]) (.seq (.seq (.reg [⟨some 15, .mov (.t 0), none⟩, ⟨some 16, .bin .lss (.t 15) (.c (.int .i64 0)), none⟩, ⟨some 17, .mov (.t 16), none⟩, ⟨some 18, .mov (.t 0), some (17, false)⟩, ⟨some 19, .bin .geq (.t 18) (.c (.int .i64 32)), some (17, false)⟩, ⟨some 20, .pick (.t 17) (.c (.bool true)) (.t 19), none⟩, ⟨some 21, .mov (.t 20), none⟩, ⟨some 22, .mov (.t 1), some (21, false)⟩, ⟨some 23, .bin .lss (.t 22) (.c (.int .i64 0)), some (21, false)⟩, ⟨some 24, .pick (.t 21) (.c (.bool true)) (.t 23), none⟩, ⟨some 25, .mov (.t 24), none⟩, ⟨some 26, .mov (.t 1), some (25, false)⟩, ⟨some 27, .bin .gtr (.t 26) (.c (.int .i64 31)), some (25, false)⟩, ⟨some 28, .pick (.t 25) (.c (.bool true)) (.t 27), none⟩, ⟨some 29, .mov (.t 28), none⟩, ⟨some 30, .mov (.t 2), some (29, false)⟩, ⟨some 31, .bin .eql (.t 30) (.c (.int .u8 0)), some (29, false)⟩, ⟨some 32, .pick (.t 29) (.c (.bool true)) (.t 31), none⟩]) (.cond (.t 32) (.seq (.reg [⟨some 6, .mov (.c (.bool true)), none⟩]) .ret) .skip)) (.seq (.reg [⟨some 34, .call 12 [.c (.int .i64 4), .c (.int .u64 1), .c (.bool true)], none⟩, ⟨some 33, .mov (.t 34), none⟩, ⟨some 35, .ext 0 (.t 33), none⟩, ⟨some 36, .ext 1 (.t 33), none⟩, ⟨some 7, .mov (.t 35), none⟩, ⟨some 8, .mov (.t 36), none⟩]) (.seq (.seq (.reg [⟨some 37, .mov (.t 7), none⟩, ⟨some 38, .eqv .p false (.t 37) (.c .nilp), none⟩, ⟨some 39, .mov (.t 38), none⟩, ⟨some 40, .mov (.t 7), some (39, false)⟩, ⟨some 41, .call 16 [.t 40], some (39, false)⟩, ⟨some 42, .eqv .p false (.t 41) (.c .nilp), some (39, false)⟩, ⟨some 43, .pick (.t 39) (.c (.bool true)) (.t 42), none⟩]) (.cond (.t 43) (.seq (.reg [⟨some 6, .mov (.c (.bool false)), none⟩]) .ret) .skip)) (.seq (.reg [⟨some 44, .mov (.t 7), none⟩, ⟨some 45, .build [.int .i64 0, .int .i64 0, .nils] [(0, 1, .c (.int .i64 3))], none⟩, ⟨some 46, .build [.int .i64 0, .int .i64 0, .int .i64 0, .nils, .int .i64 0, .int .i64 0, .nils, .nils] [(0, 1, .c (.int .i64 1)), (1, 3, .t 45)], none⟩, ⟨some 47, .call 13 [.t 44, .t 46], none⟩]) (.seq (.reg [⟨some 48, .mov (.t 7), none⟩, ⟨some 49, .build [.int .i64 0, .int .i64 0, .int .i64 0, .nils, .int .i64 0, .int .i64 0, .nils, .nils] [(0, 1, .c (.int .i64 5))], none⟩, ⟨some 50, .call 13 [.t 48, .t 49], none⟩]) (.seq (.reg [⟨some 51, .mov (.t 7), none⟩, ⟨some 52, .call 16 [.t 51], none⟩, ⟨some 53, .nilck (.t 52), none⟩, ⟨some 54, .faddr 2 (.t 53), none⟩, ⟨some 55, .load 1 false (.t 54), none⟩, ⟨some 56, .call 18 [.t 55], none⟩, ⟨some 9, .mov (.t 56), none⟩]) (.seq (.reg [⟨some 57, .mov (.t 1), none⟩, ⟨some 58, .bin .add (.c (.int .i64 384)) (.t 57), none⟩, ⟨some 10, .mov (.t 58), none⟩]) (.seq (.seq (.reg [⟨some 59, .mov (.t 9), none⟩, ⟨some 60, .len (.t 59), none⟩, ⟨some 61, .bin .neq (.t 60) (.c (.int .i64 760)), none⟩]) (.cond (.t 61) (.seq (.reg [⟨some 6, .mov (.c (.bool false)), none⟩]) .ret) .skip)) (.seq (.reg [⟨some 62, .mov (.t 7), none⟩, ⟨some 63, .mov (.t 10), none⟩, ⟨some 64, .mov (.t 9), none⟩, ⟨some 65, .mov (.t 10), none⟩, ⟨some 66, .iaddr 1 (.t 64) (.t 65), none⟩, ⟨some 67, .load 1 false (.t 66), none⟩, ⟨some 68, .mov (.t 2), none⟩, ⟨some 69, .bin .xor (.t 67) (.t 68), none⟩, ⟨some 70, .bsl 1 [.t 69], none⟩, ⟨some 71, .build [.int .i64 0, .int .i64 0, .int .i64 0, .nils, .int .i64 0, .int .i64 0, .nils, .nils] [(0, 1, .c (.int .i64 4)), (5, 1, .t 63), (6, 1, .t 70)], none⟩, ⟨some 72, .call 13 [.t 62, .t 71], none⟩]) (.seq (.reg [⟨some 73, .mov (.t 7), none⟩, ⟨some 74, .build [.int .i64 0, .int .i64 0, .int .i64 0, .nils, .int .i64 0, .int .i64 0, .nils, .nils] [(0, 1, .c (.int .i64 3))], none⟩, ⟨some 75, .call 13 [.t 73, .t 74], none⟩, ⟨some 11, .alloc [.int .i64 0, .nils], none⟩, ⟨none, .store 2 (.t 11) (.t 75), none⟩]) (.seq (.reg [⟨some 76, .mov (.t 7), none⟩, ⟨some 77, .mov (.t 0), none⟩, ⟨some 78, .build [.int .i64 0, .int .i64 0, .nils] [(0, 1, .c (.int .i64 1)), (1, 1, .t 77)], none⟩, ⟨some 79, .build [.int .i64 0, .int .i64 0, .int .i64 0, .nils, .int .i64 0, .int .i64 0, .nils, .nils] [(0, 1, .c (.int .i64 1)), (1, 3, .t 78)], none⟩, ⟨some 80, .call 13 [.t 76, .t 79], none⟩, ⟨some 12, .alloc [.int .i64 0, .nils], none⟩, ⟨none, .store 2 (.t 12) (.t 80), none⟩]) (.seq (.reg [⟨some 81, .mov (.t 7), none⟩, ⟨some 82, .call 17 [.t 81], none⟩, ⟨some 83, .eqv .p false (.t 82) (.c .nilp), none⟩, ⟨some 13, .mov (.t 83), none⟩]) (.seq (.reg [⟨some 84, .mov (.t 7), none⟩, ⟨some 85, .build [.int .i64 0, .int .i64 0, .int .i64 0, .nils, .int .i64 0, .int .i64 0, .nils, .nils] [(0, 1, .c (.int .i64 6))], none⟩, ⟨some 86, .call 13 [.t 84, .t 85], none⟩]) (.seq (.reg [⟨some 87, .mov (.t 7), none⟩, ⟨some 88, .build [.int .i64 0, .int .i64 0, .int .i64 0, .nils, .int .i64 0, .int .i64 0, .nils, .nils] [(0, 1, .c (.int .i64 3))], none⟩, ⟨some 89, .call 13 [.t 87, .t 88], none⟩, ⟨some 14, .alloc [.int .i64 0, .nils], none⟩, ⟨none, .store 2 (.t 14) (.t 89), none⟩]) (.seq (.reg [⟨some 90, .faddr 0 (.t 11), none⟩, ⟨some 91, .load 1 false (.t 90), none⟩, ⟨some 92, .bin .eql (.t 91) (.c (.int .i64 3)), none⟩, ⟨some 93, .mov (.t 92), none⟩, ⟨some 94, .faddr 0 (.t 12), some (93, true)⟩, ⟨some 95, .load 1 false (.t 94), some (93, true)⟩, ⟨some 96, .bin .eql (.t 95) (.c (.int .i64 8)), some (93, true)⟩, ⟨some 97, .pick (.t 93) (.t 96) (.c (.bool false)), none⟩, ⟨some 98, .mov (.t 97), none⟩, ⟨some 99, .mov (.t 13), some (98, true)⟩, ⟨some 100, .pick (.t 98) (.t 99) (.c (.bool false)), none⟩, ⟨some 101, .mov (.t 100), none⟩, ⟨some 102, .faddr 0 (.t 14), some (101, true)⟩, ⟨some 103, .load 1 false (.t 102), some (101, true)⟩, ⟨some 104, .bin .eql (.t 103) (.c (.int .i64 0)), some (101, true)⟩, ⟨some 105, .pick (.t 101) (.t 104) (.c (.bool false)), none⟩, ⟨some 106, .mov (.t 105), none⟩, ⟨some 107, .mov (.t 7), some (106, true)⟩, ⟨some 108, .call 17 [.t 107], some (106, true)⟩, ⟨some 109, .eqv .p true (.t 108) (.c .nilp), some (106, true)⟩, ⟨some 110, .pick (.t 106) (.t 109) (.c (.bool false)), none⟩, ⟨some 111, .mov (.t 110), none⟩, ⟨some 112, .call 14 [], some (111, true)⟩, ⟨some 113, .pick (.t 111) (.t 112) (.c (.bool false)), none⟩, ⟨some 6, .mov (.t 113), none⟩]) .ret)))))))))))))))
theorem is_law29_PlayShut : FnIs Tryz.prog 6 114 c_law29_PlayShut [.t 6] := ⟨Tryz.f6, _, Tryz.func6, rfl, rfl, by kernel_rfl, by kernel_rfl⟩

def c_play_New : CC := .seq (.reg [⟨some 6, .mov (.c .nilp), none⟩, ⟨some 7, .mov (.c (.int .i64 0)), none⟩]) (.seq (.reg [⟨some 12, .mov (.t 0), none⟩, ⟨some 13, .mov (.t 1), none⟩, ⟨some 14, .mov (.t 2), none⟩, ⟨some 15, .call 25 [.t 12, .t 13, .t 14], none⟩, ⟨some 11, .mov (.t 15), none⟩, ⟨some 16, .ext 0 (.t 11), none⟩, ⟨some 17, .ext 1 (.t 11), none⟩, ⟨some 8, .mov (.t 16), none⟩, ⟨some 9, .mov (.t 17), none⟩]) (.seq (.seq (.reg [⟨some 18, .mov (.t 9), none⟩, ⟨some 19, .bin .neq (.t 18) (.c (.int .i64 0)), none⟩]) (.cond (.t 19) (.seq (.reg [⟨some 20, .mov (.t 9), none⟩, ⟨some 6, .mov (.c .nilp), none⟩, ⟨some 7, .mov (.t 20), none⟩]) .ret) .skip)) (.seq (.reg [⟨some 22, .mov (.t 8), none⟩, ⟨some 23, .call 26 [.t 22], none⟩, ⟨some 21, .mov (.t 23), none⟩, ⟨some 24, .ext 0 (.t 21), none⟩, ⟨some 25, .ext 1 (.t 21), none⟩, ⟨some 10, .mov (.t 24), none⟩, ⟨some 9, .mov (.t 25), none⟩]) (.seq (.seq (.reg [⟨some 26, .mov (.t 9), none⟩, ⟨some 27, .bin .neq (.t 26) (.c (.int .i64 0)), none⟩]) (.cond (.t 27) (.seq (.reg [⟨some 28, .mov (.t 9), none⟩, ⟨some 6, .mov (.c .nilp), none⟩, ⟨some 7, .mov (.t 28), none⟩]) .ret) .skip)) (.seq (.reg [⟨some 29, .mov (.t 8), none⟩, ⟨some 30, .mov (.t 10), none⟩, ⟨some 31, .build [.nilp, .nilp, .nils] [(0, 1, .t 29), (1, 1, .t 30)], none⟩, ⟨some 32, .box 3 (.t 31), none⟩, ⟨some 6, .mov (.t 32), none⟩, ⟨some 7, .mov (.c (.int .i64 0)), none⟩]) .ret)))))
theorem is_play_New : FnIs Tryz.prog 12 33 c_play_New [.t 6, .t 7] := ⟨Tryz.f12, _, Tryz.func12, rfl, rfl, by kernel_rfl, by kernel_rfl⟩

def c_play_Box_Do : CC := .seq (.reg [⟨some 3, .box 8 (.t 1), none⟩, ⟨some 4, .alloc [.int .i64 0, .nils], none⟩]) (.seq (.seq (.reg [⟨some 5, .mov (.t 0), none⟩, ⟨some 6, .eqv .p false (.t 5) (.c .nilp), none⟩]) (.cond (.t 6) (.seq (.reg [⟨some 7, .build [.int .i64 0, .nils] [(0, 1, .c (.int .i64 1))], none⟩, ⟨none, .store 2 (.t 4) (.t 7), none⟩]) .ret) .skip)) (.seq (.seq (.reg [⟨some 8, .faddr 0 (.t 3), none⟩, ⟨some 9, .load 1 false (.t 8), none⟩]) (.block 0 (.seq (.reg [⟨some 12, .bin .eql (.t 9) (.c (.int .i64 1)), none⟩, ⟨some 11, .mov (.t 12), none⟩]) (.cond (.t 11) (.seq (.reg [⟨some 13, .mov (.t 0), none⟩, ⟨some 14, .faddr 1 (.t 3), none⟩, ⟨some 15, .load 3 true (.t 14), none⟩, ⟨some 16, .call 27 [.t 13, .t 15], none⟩, ⟨none, .store 2 (.t 4) (.t 16), none⟩]) .ret) (.seq (.reg [⟨some 18, .bin .eql (.t 9) (.c (.int .i64 2)), none⟩, ⟨some 17, .mov (.t 18), none⟩]) (.cond (.t 17) (.dreg [⟨some 19, .mov (.t 0), none⟩, ⟨some 20, .nilck (.t 19), none⟩, ⟨some 21, .faddr 0 (.t 20), none⟩, ⟨some 22, .load 1 false (.t 21), none⟩, ⟨some 23, .nilck (.t 22), none⟩, ⟨some 24, .faddr 1 (.t 23), none⟩, ⟨some 25, .load 1 false (.t 24), none⟩, ⟨some 26, .faddr 4 (.t 3), none⟩, ⟨some 27, .load 1 false (.t 26), none⟩, ⟨some 28, .call 28 [.t 25, .t 27], none⟩] [[], [0], [1], [2], [3], [4], [5], [], [7], [6, 8]]) (.seq (.reg [⟨some 30, .bin .eql (.t 9) (.c (.int .i64 3)), none⟩, ⟨some 29, .mov (.t 30), none⟩]) (.cond (.t 29) (.seq (.reg [⟨some 31, .mov (.t 0), none⟩, ⟨some 32, .faddr 7 (.t 3), none⟩, ⟨some 33, .load 1 false (.t 32), none⟩, ⟨some 34, .call 29 [.t 31, .t 33], none⟩, ⟨some 35, .build [.int .i64 0, .nils] [(0, 1, .t 34)], none⟩, ⟨none, .store 2 (.t 4) (.t 35), none⟩]) .ret) (.seq (.reg [⟨some 37, .bin .eql (.t 9) (.c (.int .i64 4)), none⟩, ⟨some 36, .mov (.t 37), none⟩]) (.cond (.t 36) (.seq (.dreg [⟨some 38, .mov (.t 0), none⟩, ⟨some 39, .nilck (.t 38), none⟩, ⟨some 40, .faddr 0 (.t 39), none⟩, ⟨some 41, .load 1 false (.t 40), none⟩, ⟨some 42, .nilck (.t 41), none⟩, ⟨some 43, .faddr 2 (.t 42), none⟩, ⟨some 44, .load 1 false (.t 43), none⟩, ⟨some 45, .faddr 5 (.t 3), none⟩, ⟨some 46, .load 1 false (.t 45), none⟩, ⟨some 47, .faddr 6 (.t 3), none⟩, ⟨some 48, .load 1 false (.t 47), none⟩, ⟨some 49, .call 30 [.t 44, .t 46, .t 48], none⟩, ⟨some 50, .not (.t 49), none⟩] [[], [0], [1], [2], [3], [4], [5], [], [7], [], [9], [6, 8, 10], [11]]) (.cond (.t 50) (.seq (.reg [⟨some 51, .build [.int .i64 0, .nils] [(0, 1, .c (.int .i64 1))], none⟩, ⟨none, .store 2 (.t 4) (.t 51), none⟩]) .ret) .skip)) (.seq (.reg [⟨some 53, .bin .eql (.t 9) (.c (.int .i64 5)), none⟩, ⟨some 52, .mov (.t 53), none⟩]) (.cond (.t 52) (.dreg [⟨some 54, .mov (.t 0), none⟩, ⟨some 55, .mov (.t 0), none⟩, ⟨some 56, .nilck (.t 55), none⟩, ⟨some 57, .faddr 2 (.t 56), none⟩, ⟨some 58, .load 1 false (.t 57), none⟩, ⟨some 59, .mov (.t 0), none⟩, ⟨some 60, .nilck (.t 59), none⟩, ⟨some 61, .faddr 0 (.t 60), none⟩, ⟨some 62, .load 1 false (.t 61), none⟩, ⟨some 63, .nilck (.t 62), none⟩, ⟨some 64, .faddr 2 (.t 63), none⟩, ⟨some 65, .load 1 false (.t 64), none⟩, ⟨some 66, .call 18 [.t 65], none⟩, ⟨some 67, .bsl 1 [.t 66], none⟩, ⟨some 68, .app 1 24 (.t 58) (.t 67), none⟩, ⟨some 69, .nilck (.t 54), none⟩, ⟨some 70, .faddr 2 (.t 69), none⟩, ⟨none, .store 1 (.t 70) (.t 68), none⟩] [[], [], [1], [2], [3], [], [5], [6], [7], [8], [9], [10], [11], [12], [4, 13, 12], [0, 0, 1, 2, 3, 4, 5, 6, 7, 8, 9, 10, 11, 12, 13, 14], [15, 0, 1, 2, 3, 4, 5, 6, 7, 8, 9, 10, 11, 12, 13, 14], [16, 14, 14, 0, 1, 2, 3, 4, 5, 6, 7, 8, 9, 10, 11, 12, 13, 14]]) (.seq (.reg [⟨some 72, .bin .eql (.t 9) (.c (.int .i64 6)), none⟩, ⟨some 71, .mov (.t 72), none⟩]) (.cond (.t 71) (.seq (.reg [⟨some 73, .mov (.t 0), none⟩, ⟨some 74, .faddr 4 (.t 3), none⟩, ⟨some 75, .load 1 false (.t 74), none⟩, ⟨some 76, .call 31 [.t 73, .t 75], none⟩, ⟨some 77, .build [.int .i64 0, .nils] [(0, 1, .t 76)], none⟩, ⟨none, .store 2 (.t 4) (.t 77), none⟩]) .ret) (.seq (.reg [⟨some 79, .bin .eql (.t 9) (.c (.int .i64 7)), none⟩, ⟨some 78, .mov (.t 79), none⟩]) (.cond (.t 78) (.dreg [⟨some 80, .mov (.t 0), none⟩, ⟨some 81, .nilck (.t 80), none⟩, ⟨some 82, .faddr 0 (.t 81), none⟩, ⟨some 83, .load 1 false (.t 82), none⟩, ⟨some 84, .nilck (.t 83), none⟩, ⟨some 85, .faddr 3 (.t 84), none⟩, ⟨some 86, .load 1 false (.t 85), none⟩, ⟨some 87, .faddr 4 (.t 3), none⟩, ⟨some 88, .load 1 false (.t 87), none⟩, ⟨some 89, .bin .neq (.t 88) (.c (.int .i64 0)), none⟩, ⟨some 90, .call 32 [.t 86, .t 89], none⟩] [[], [0], [1], [2], [3], [4], [5], [], [7], [8], [6, 9]]) (.seq (.reg [⟨some 10, .build [.int .i64 0, .nils] [(0, 1, .c (.int .i64 1))], none⟩, ⟨none, .store 2 (.t 4) (.t 10), none⟩]) .ret))))))))))))))))) (.seq (.reg [⟨some 91, .build [.int .i64 0, .nils] [], none⟩, ⟨none, .store 2 (.t 4) (.t 91), none⟩]) .ret)))
theorem is_play_Box_Do : FnIs Tryz.prog 13 92 c_play_Box_Do [.cell 4 2 true] := ⟨Tryz.f13, _, Tryz.func13, rfl, rfl, by kernel_rfl, by kernel_rfl⟩

def c_law29_known : CC := .seq (.reg [⟨some 0, .mov (.c (.bool false)), none⟩]) (.seq (.reg [⟨some 6, .call 12 [.c (.int .i64 4), .c (.int .u64 1), .c (.bool true)], none⟩, ⟨some 5, .mov (.t 6), none⟩, ⟨some 7, .ext 0 (.t 5), none⟩, ⟨some 8, .ext 1 (.t 5), none⟩, ⟨some 1, .mov (.t 7), none⟩, ⟨some 2, .mov (.t 8), none⟩]) (.seq (.reg [⟨some 10, .call 12 [.c (.int .i64 3), .c (.int .u64 1), .c (.bool true)], none⟩, ⟨some 9, .mov (.t 10), none⟩, ⟨some 11, .ext 0 (.t 9), none⟩, ⟨some 12, .ext 1 (.t 9), none⟩, ⟨some 3, .mov (.t 11), none⟩, ⟨some 4, .mov (.t 12), none⟩]) (.seq (.reg [⟨some 13, .mov (.t 2), none⟩, ⟨some 14, .bin .eql (.t 13) (.c (.int .i64 0)), none⟩, ⟨some 15, .mov (.t 14), none⟩, ⟨some 16, .mov (.t 4), some (15, true)⟩, ⟨some 17, .bin .eql (.t 16) (.c (.int .i64 1)), some (15, true)⟩, ⟨some 18, .pick (.t 15) (.t 17) (.c (.bool false)), none⟩, ⟨some 19, .mov (.t 18), none⟩, ⟨some 20, .mov (.t 1), some (19, true)⟩, ⟨some 21, .eqv .p true (.t 20) (.c .nilp), some (19, true)⟩, ⟨some 22, .pick (.t 19) (.t 21) (.c (.bool false)), none⟩, ⟨some 23, .mov (.t 22), none⟩, ⟨some 24, .mov (.t 1), some (23, true)⟩, ⟨some 25, .build [.int .i64 0, .int .i64 0, .int .i64 0, .nils, .int .i64 0, .int .i64 0, .nils, .nils] [(0, 1, .c (.int .i64 6))], some (23, true)⟩, ⟨some 26, .call 13 [.t 24, .t 25], some (23, true)⟩, ⟨some 27, .fld 0 1 false (.t 26), some (23, true)⟩, ⟨some 28, .bin .eql (.t 27) (.c (.int .i64 1)), some (23, true)⟩, ⟨some 29, .pick (.t 23) (.t 28) (.c (.bool false)), none⟩, ⟨some 30, .mov (.t 29), none⟩, ⟨some 31, .mov (.t 1), some (30, true)⟩, ⟨some 32, .build [.int .i64 0, .int .i64 0, .int .i64 0, .nils, .int .i64 0, .int .i64 0, .nils, .nils] [], some (30, true)⟩, ⟨some 33, .call 13 [.t 31, .t 32], some (30, true)⟩, ⟨some 34, .fld 0 1 false (.t 33), some (30, true)⟩, ⟨some 35, .bin .eql (.t 34) (.c (.int .i64 1)), some (30, true)⟩, ⟨some 36, .pick (.t 30) (.t 35) (.c (.bool false)), none⟩, ⟨some 0, .mov (.t 36), none⟩]) .ret)))
theorem is_law29_known : FnIs Tryz.prog 14 37 c_law29_known [.t 0] := ⟨Tryz.f14, _, Tryz.func14, rfl, rfl, by kernel_rfl, by kernel_rfl⟩

def c_play_Box_World : CC := .seq (.reg [⟨some 2, .mov (.c .nilp), none⟩]) (.seq (.seq (.reg [⟨some 3, .mov (.t 0), none⟩, ⟨some 4, .eqv .p false (.t 3) (.c .nilp), none⟩]) (.cond (.t 4) (.seq (.reg [⟨some 2, .mov (.c .nilp), none⟩]) .ret) .skip)) (.seq (.reg [⟨some 5, .mov (.t 0), none⟩, ⟨some 6, .nilck (.t 5), none⟩, ⟨some 7, .faddr 0 (.t 6), none⟩, ⟨some 8, .load 1 false (.t 7), none⟩, ⟨some 2, .mov (.t 8), none⟩]) .ret))
theorem is_play_Box_World : FnIs Tryz.prog 16 9 c_play_Box_World [.t 2] := ⟨Tryz.f16, _, Tryz.func16, rfl, rfl, by kernel_rfl, by kernel_rfl⟩

def c_play_Box_Cache : CC := .seq (.reg [⟨some 2, .mov (.c .nilp), none⟩]) (.seq (.seq (.reg [⟨some 3, .mov (.t 0), none⟩, ⟨some 4, .eqv .p false (.t 3) (.c .nilp), none⟩]) (.cond (.t 4) (.seq (.reg [⟨some 2, .mov (.c .nilp), none⟩]) .ret) .skip)) (.seq (.reg [⟨some 5, .mov (.t 0), none⟩, ⟨some 6, .nilck (.t 5), none⟩, ⟨some 7, .faddr 1 (.t 6), none⟩, ⟨some 8, .load 1 false (.t 7), none⟩, ⟨some 2, .mov (.t 8), none⟩]) .ret))
theorem is_play_Box_Cache : FnIs Tryz.prog 17 9 c_play_Box_Cache [.t 2] := ⟨Tryz.f17, _, Tryz.func17, rfl, rfl, by kernel_rfl, by kernel_rfl⟩

def c_cache_Open : CC := .seq (.reg [⟨some 2, .mov (.c .nilp), none⟩, ⟨some 3, .mov (.c (.int .i64 0)), none⟩]) (.seq (.block 0 (.seq (.reg [⟨some 12, .mov (.t 0), none⟩, ⟨some 13, .eqv .p false (.t 12) (.c .nilp), none⟩, ⟨some 11, .mov (.t 13), none⟩]) (.cond (.t 11) (.seq (.reg [⟨some 2, .mov (.c .nilp), none⟩, ⟨some 3, .mov (.c (.int .i64 1)), none⟩]) .ret) (.seq (.reg [⟨some 15, .mov (.t 0), none⟩, ⟨some 16, .nilck (.t 15), none⟩, ⟨some 17, .faddr 1 (.t 16), none⟩, ⟨some 18, .load 1 false (.t 17), none⟩, ⟨some 19, .call 48 [.t 18], none⟩, ⟨some 20, .not (.t 19), none⟩, ⟨some 21, .mov (.t 20), none⟩, ⟨some 22, .mov (.t 0), some (21, false)⟩, ⟨some 23, .nilck (.t 22), some (21, false)⟩, ⟨some 24, .faddr 4 (.t 23), some (21, false)⟩, ⟨some 25, .load 1 false (.t 24), some (21, false)⟩, ⟨some 26, .call 49 [.t 25], some (21, false)⟩, ⟨some 27, .not (.t 26), some (21, false)⟩, ⟨some 28, .pick (.t 21) (.c (.bool true)) (.t 27), none⟩, ⟨some 14, .mov (.t 28), none⟩]) (.cond (.t 14) (.seq (.reg [⟨some 2, .mov (.c .nilp), none⟩, ⟨some 3, .mov (.c (.int .i64 7)), none⟩]) .ret) .skip))))) (.seq (.reg [⟨some 30, .mov (.t 0), none⟩, ⟨some 31, .call 50 [.t 30], none⟩, ⟨some 29, .mov (.t 31), none⟩, ⟨some 32, .ext 0 (.t 29), none⟩, ⟨some 33, .ext 1 (.t 29), none⟩, ⟨some 4, .mov (.t 32), none⟩, ⟨some 5, .mov (.t 33), none⟩]) (.seq (.seq (.reg [⟨some 34, .mov (.t 5), none⟩, ⟨some 35, .bin .neq (.t 34) (.c (.int .i64 0)), none⟩]) (.cond (.t 35) (.seq (.reg [⟨some 36, .mov (.t 5), none⟩, ⟨some 2, .mov (.c .nilp), none⟩, ⟨some 3, .mov (.t 36), none⟩]) .ret) .skip)) (.seq (.reg [⟨some 38, .mov (.t 0), none⟩, ⟨some 39, .nilck (.t 38), none⟩, ⟨some 40, .faddr 4 (.t 39), none⟩, ⟨some 41, .load 1 false (.t 40), none⟩, ⟨some 42, .call 52 [.t 41], none⟩, ⟨some 43, .call 51 [.t 42], none⟩, ⟨some 37, .mov (.t 43), none⟩, ⟨some 44, .ext 0 (.t 37), none⟩, ⟨some 45, .ext 1 (.t 37), none⟩, ⟨some 6, .mov (.t 44), none⟩, ⟨some 5, .mov (.t 45), none⟩]) (.seq (.seq (.reg [⟨some 46, .mov (.t 5), none⟩, ⟨some 47, .bin .neq (.t 46) (.c (.int .i64 0)), none⟩]) (.cond (.t 47) (.seq (.reg [⟨some 48, .mov (.t 5), none⟩, ⟨some 2, .mov (.c .nilp), none⟩, ⟨some 3, .mov (.t 48), none⟩]) .ret) .skip)) (.seq (.reg [⟨some 49, .mov (.t 0), none⟩, ⟨some 50, .mov (.t 6), none⟩, ⟨some 51, .mov (.t 4), none⟩, ⟨some 52, .mov (.t 4), none⟩, ⟨some 53, .call 53 [.t 52], none⟩, ⟨some 54, .call 54 [], none⟩, ⟨some 55, .build [.nilp, .nilp, .nils, .nils, .nilp, .bool false] [(0, 1, .t 49), (1, 1, .t 50), (2, 1, .t 51), (3, 1, .t 53), (4, 1, .t 54)], none⟩, ⟨some 56, .box 6 (.t 55), none⟩, ⟨some 7, .mov (.t 56), none⟩]) (.seq (.seq (.reg [⟨some 57, .mov (.t 4), none⟩, ⟨some 58, .len (.t 57), none⟩, ⟨some 59, .mov (.c (.int .i64 0)), none⟩]) (.block 1 (.loop (.seq (.reg [⟨some 60, .bin .lss (.t 59) (.t 58), none⟩]) (.seq (.cond (.t 60) .skip (.exit 1)) (.seq (.block 2 (.seq (.reg [⟨some 61, .mov (.t 59), none⟩, ⟨some 62, .iaddr 8 (.t 57) (.t 59), none⟩, ⟨some 63, .load 8 true (.t 62), none⟩, ⟨some 9, .alloc [.int .i64 0, .bool false, .int .i64 0, .int .u32 0, .int .u32 0, .int .u64 0, .int .u64 0, .int .u64 0], none⟩, ⟨some 8, .mov (.t 61), none⟩, ⟨none, .store 8 (.t 9) (.t 63), none⟩]) (.seq (.reg [⟨some 64, .faddr 0 (.t 9), none⟩, ⟨some 65, .load 1 false (.t 64), none⟩, ⟨some 66, .bin .neq (.t 65) (.c (.int .i64 0)), none⟩]) (.cond (.t 66) (.reg [⟨some 67, .mov (.t 7), none⟩, ⟨some 68, .nilck (.t 67), none⟩, ⟨some 69, .faddr 4 (.t 68), none⟩, ⟨some 70, .load 1 false (.t 69), none⟩, ⟨some 71, .mov (.t 8), none⟩, ⟨some 72, .call 55 [.t 70, .t 71], none⟩]) .skip)))) (.reg [⟨some 73, .bin .add (.t 59) (.c (.int .i64 1)), none⟩, ⟨some 59, .mov (.t 73), none⟩]))))))) (.seq (.seq (.reg [⟨some 74, .mov (.t 7), none⟩, ⟨some 75, .call 56 [.t 74], none⟩, ⟨some 10, .mov (.t 75), none⟩]) (.seq (.reg [⟨some 76, .mov (.t 10), none⟩, ⟨some 77, .bin .neq (.t 76) (.c (.int .i64 0)), none⟩]) (.cond (.t 77) (.seq (.reg [⟨some 78, .mov (.t 10), none⟩, ⟨some 2, .mov (.c .nilp), none⟩, ⟨some 3, .mov (.t 78), none⟩]) .ret) .skip))) (.seq (.reg [⟨some 79, .mov (.t 7), none⟩, ⟨some 2, .mov (.t 79), none⟩, ⟨some 3, .mov (.c (.int .i64 0)), none⟩]) .ret)))))))))
theorem is_cache_Open : FnIs Tryz.prog 26 80 c_cache_Open [.t 2, .t 3] := ⟨Tryz.f26, _, Tryz.func26, rfl, rfl, by kernel_rfl, by kernel_rfl⟩

def c_play_Box_call : CC := .seq (.reg [⟨some 3, .box 3 (.t 1), none⟩, ⟨some 4, .alloc [.int .i64 0, .nils], none⟩]) (.seq (.seq (.reg [⟨some 5, .mov (.t 0), none⟩, ⟨some 6, .nilck (.t 5), none⟩, ⟨some 7, .faddr 1 (.t 6), none⟩, ⟨some 8, .load 1 false (.t 7), none⟩, ⟨some 9, .eqv .p false (.t 8) (.c .nilp), none⟩]) (.cond (.t 9) (.seq (.reg [⟨some 10, .build [.int .i64 0, .nils] [(0, 1, .c (.int .i64 8))], none⟩, ⟨none, .store 2 (.t 4) (.t 10), none⟩]) .ret) .skip)) (.seq (.dreg [⟨some 11, .mov (.t 0), none⟩, ⟨some 12, .nilck (.t 11), none⟩, ⟨some 13, .faddr 1 (.t 12), none⟩, ⟨some 14, .load 1 false (.t 13), none⟩, ⟨some 15, .load 3 true (.t 3), none⟩, ⟨some 16, .call 57 [.t 14, .t 15], none⟩, ⟨none, .store 2 (.t 4) (.t 16), none⟩] [[], [0], [1], [2], [], [3, 4], [5, 5, 0, 1, 2, 3, 4, 5]]) .ret))
theorem is_play_Box_call : FnIs Tryz.prog 27 17 c_play_Box_call [.cell 4 2 true] := ⟨Tryz.f27, _, Tryz.func27, rfl, rfl, by kernel_rfl, by kernel_rfl⟩

def c_play_Box_crash : CC := .seq (.reg [⟨some 4, .mov (.c (.int .i64 0)), none⟩]) (.seq (.reg [⟨some 7, .mov (.t 0), none⟩, ⟨some 8, .nilck (.t 7), none⟩, ⟨some 9, .faddr 0 (.t 8), none⟩, ⟨some 10, .load 1 false (.t 9), none⟩, ⟨some 11, .mov (.t 1), none⟩, ⟨some 12, .call 58 [.t 10, .t 11], none⟩]) (.seq (.reg [⟨some 14, .mov (.t 0), none⟩, ⟨some 15, .nilck (.t 14), none⟩, ⟨some 16, .faddr 0 (.t 15), none⟩, ⟨some 17, .load 1 false (.t 16), none⟩, ⟨some 18, .call 26 [.t 17], none⟩, ⟨some 13, .mov (.t 18), none⟩, ⟨some 19, .ext 0 (.t 13), none⟩, ⟨some 20, .ext 1 (.t 13), none⟩, ⟨some 5, .mov (.t 19), none⟩, ⟨some 6, .mov (.t 20), none⟩]) (.seq (.reg [⟨some 21, .mov (.t 0), none⟩, ⟨some 22, .mov (.t 5), none⟩, ⟨some 23, .nilck (.t 21), none⟩, ⟨some 24, .faddr 1 (.t 23), none⟩, ⟨none, .store 1 (.t 24) (.t 22), none⟩]) (.seq (.reg [⟨some 25, .mov (.t 6), none⟩, ⟨some 4, .mov (.t 25), none⟩]) .ret))))
theorem is_play_Box_crash : FnIs Tryz.prog 29 26 c_play_Box_crash [.t 4] := ⟨Tryz.f29, _, Tryz.func29, rfl, rfl, by kernel_rfl, by kernel_rfl⟩

def c_play_Box_back : CC := .seq (.reg [⟨some 4, .mov (.c (.int .i64 0)), none⟩]) (.seq (.seq (.dreg [⟨some 5, .mov (.t 1), none⟩, ⟨some 6, .bin .lss (.t 5) (.c (.int .i64 0)), none⟩, ⟨some 7, .mov (.t 6), none⟩, ⟨some 8, .mov (.t 1), some (7, false)⟩, ⟨some 9, .mov (.t 0), some (7, false)⟩, ⟨some 10, .nilck (.t 9), some (7, false)⟩, ⟨some 11, .faddr 2 (.t 10), some (7, false)⟩, ⟨some 12, .load 1 false (.t 11), some (7, false)⟩, ⟨some 13, .len (.t 12), some (7, false)⟩, ⟨some 14, .bin .geq (.t 8) (.t 13), some (7, false)⟩, ⟨some 15, .pick (.t 7) (.c (.bool true)) (.t 14), none⟩, ⟨some 16, .mov (.t 15), none⟩, ⟨some 17, .mov (.t 0), some (16, false)⟩, ⟨some 18, .nilck (.t 17), some (16, false)⟩, ⟨some 19, .faddr 0 (.t 18), some (16, false)⟩, ⟨some 20, .load 1 false (.t 19), some (16, false)⟩, ⟨some 21, .nilck (.t 20), some (16, false)⟩, ⟨some 22, .faddr 2 (.t 21), some (16, false)⟩, ⟨some 23, .load 1 false (.t 22), some (16, false)⟩, ⟨some 24, .mov (.t 0), some (16, false)⟩, ⟨some 25, .nilck (.t 24), some (16, false)⟩, ⟨some 26, .faddr 2 (.t 25), some (16, false)⟩, ⟨some 27, .load 1 false (.t 26), some (16, false)⟩, ⟨some 28, .mov (.t 1), some (16, false)⟩, ⟨some 29, .iaddr 1 (.t 27) (.t 28), some (16, false)⟩, ⟨some 30, .load 1 false (.t 29), some (16, false)⟩, ⟨some 31, .call 62 [.t 23, .t 30], some (16, false)⟩, ⟨some 32, .not (.t 31), some (16, false)⟩, ⟨some 33, .pick (.t 16) (.c (.bool true)) (.t 32), none⟩] [[], [0], [1], [2], [2], [4, 2], [5, 2], [6, 2], [7, 2], [3, 8, 2], [2, 9], [10, 2], [11], [12, 11], [13, 11], [14, 11], [15, 11], [16, 11], [17, 11], [11], [19, 11], [20, 11], [21, 11], [11], [22, 23, 11], [24, 11], [18, 25, 11, 11], [26, 11], [11, 27]]) (.cond (.t 33) (.seq (.reg [⟨some 4, .mov (.c (.int .i64 1)), none⟩]) .ret) .skip)) (.seq (.reg [⟨some 4, .mov (.c (.int .i64 0)), none⟩]) .ret))
theorem is_play_Box_back : FnIs Tryz.prog 31 34 c_play_Box_back [.t 4] := ⟨Tryz.f31, _, Tryz.func31, rfl, rfl, by kernel_rfl, by kernel_rfl⟩

def c_slices_Cloneapi_Leaf_api_Leaf : CC := .seq (.reg [⟨some 2, .mov (.c .nils), none⟩]) (.seq (.seq (.reg [⟨some 3, .mov (.t 0), none⟩, ⟨some 4, .isnil false (.t 3), none⟩]) (.cond (.t 4) (.seq (.reg [⟨some 2, .mov (.c .nils), none⟩]) .ret) .skip)) (.seq (.reg [⟨some 5, .bsl0, none⟩, ⟨some 6, .mov (.t 0), none⟩, ⟨some 7, .app 8 56 (.t 5) (.t 6), none⟩, ⟨some 2, .mov (.t 7), none⟩]) .ret))
theorem is_slices_Cloneapi_Leaf_api_Leaf : FnIs Tryz.prog 53 8 c_slices_Cloneapi_Leaf_api_Leaf [.t 2] := ⟨Tryz.f53, _, Tryz.func53, rfl, rfl, by kernel_rfl, by kernel_rfl⟩

def c_age_New : CC := .seq (.reg [⟨some 0, .mov (.c .nilp), none⟩]) (.seq (.reg [⟨some 2, .build [.int .i64 0, .int .i64 0, .int .i64 0, .int .i64 0, .int .i64 0, .int .i64 0, .int .i64 0, .int .i64 0, .int .i64 0, .int .i64 0, .int .i64 0, .int .i64 0, .int .i64 0, .int .i64 0, .int .i64 0, .int .i64 0, .int .i64 0, .nilp] [], none⟩, ⟨some 3, .box 18 (.t 2), none⟩, ⟨some 1, .mov (.t 3), none⟩]) (.seq (.reg [⟨some 4, .mov (.t 1), none⟩, ⟨some 5, .mov (.t 1), none⟩, ⟨some 6, .mkf (.func 81) [.t 5] [], none⟩, ⟨some 7, .build [.nils, .nilf] [(1, 1, .t 6)], none⟩, ⟨some 8, .box 2 (.t 7), none⟩, ⟨some 9, .nilck (.t 4), none⟩, ⟨some 10, .faddr 17 (.t 9), none⟩, ⟨none, .store 1 (.t 10) (.t 8), none⟩]) (.seq (.reg [⟨some 11, .mov (.t 1), none⟩, ⟨some 0, .mov (.t 11), none⟩]) .ret)))
theorem is_age_New : FnIs Tryz.prog 54 12 c_age_New [.t 0] := ⟨Tryz.f54, _, Tryz.func54, rfl, rfl, by kernel_rfl, by kernel_rfl⟩

def c_cache_Cache_finish : CC := .seq (.reg [⟨some 2, .mov (.c (.int .i64 0)), none⟩]) (.seq (.seq (.reg [⟨some 4, .mov (.t 0), none⟩, ⟨some 5, .nilck (.t 4), none⟩, ⟨some 6, .faddr 0 (.t 5), none⟩, ⟨some 7, .load 1 false (.t 6), none⟩, ⟨some 8, .nilck (.t 7), none⟩, ⟨some 9, .faddr 5 (.t 8), none⟩, ⟨some 10, .load 1 false (.t 9), none⟩, ⟨some 11, .call 64 [.t 10], none⟩, ⟨some 12, .len (.t 11), none⟩, ⟨some 13, .bin .lss (.t 12) (.c (.int .i64 2)), none⟩]) (.cond (.t 13) (.seq (.reg [⟨some 2, .mov (.c (.int .i64 0)), none⟩]) .ret) .skip)) (.seq (.seq (.reg [⟨some 14, .mov (.t 0), none⟩, ⟨some 15, .call 84 [.t 14], none⟩, ⟨some 3, .mov (.t 15), none⟩]) (.seq (.reg [⟨some 16, .mov (.t 3), none⟩, ⟨some 17, .bin .neq (.t 16) (.c (.int .i64 0)), none⟩]) (.cond (.t 17) (.seq (.reg [⟨some 18, .mov (.t 3), none⟩, ⟨some 2, .mov (.t 18), none⟩]) .ret) .skip))) (.seq (.reg [⟨some 19, .mov (.t 0), none⟩, ⟨some 20, .call 85 [.t 19], none⟩, ⟨some 2, .mov (.t 20), none⟩]) .ret)))
theorem is_cache_Cache_finish : FnIs Tryz.prog 56 21 c_cache_Cache_finish [.t 2] := ⟨Tryz.f56, _, Tryz.func56, rfl, rfl, by kernel_rfl, by kernel_rfl⟩

def c_cache_Cache_Do : CC := .seq (.reg [⟨some 3, .box 3 (.t 1), none⟩, ⟨some 4, .alloc [.int .i64 0, .nils], none⟩]) (.seq (.block 0 (.seq (.reg [⟨some 7, .mov (.t 0), none⟩, ⟨some 8, .eqv .p false (.t 7) (.c .nilp), none⟩, ⟨some 6, .mov (.t 8), none⟩]) (.cond (.t 6) (.seq (.reg [⟨some 9, .build [.int .i64 0, .nils] [(0, 1, .c (.int .i64 1))], none⟩, ⟨none, .store 2 (.t 4) (.t 9), none⟩]) .ret) (.seq (.reg [⟨some 11, .mov (.t 0), none⟩, ⟨some 12, .nilck (.t 11), none⟩, ⟨some 13, .faddr 0 (.t 12), none⟩, ⟨some 14, .load 1 false (.t 13), none⟩, ⟨some 15, .nilck (.t 14), none⟩, ⟨some 16, .faddr 1 (.t 15), none⟩, ⟨some 17, .load 1 false (.t 16), none⟩, ⟨some 18, .call 48 [.t 17], none⟩, ⟨some 19, .not (.t 18), none⟩, ⟨some 10, .mov (.t 19), none⟩]) (.cond (.t 10) (.seq (.reg [⟨some 20, .build [.int .i64 0, .nils] [(0, 1, .c (.int .i64 7))], none⟩, ⟨none, .store 2 (.t 4) (.t 20), none⟩]) .ret) (.seq (.reg [⟨some 22, .mov (.t 0), none⟩, ⟨some 23, .nilck (.t 22), none⟩, ⟨some 24, .faddr 5 (.t 23), none⟩, ⟨some 25, .load 1 false (.t 24), none⟩, ⟨some 21, .mov (.t 25), none⟩]) (.cond (.t 21) (.seq (.reg [⟨some 26, .build [.int .i64 0, .nils] [(0, 1, .c (.int .i64 4))], none⟩, ⟨none, .store 2 (.t 4) (.t 26), none⟩]) .ret) (.seq (.reg [⟨some 28, .load 3 true (.t 3), none⟩, ⟨some 29, .call 86 [.t 28], none⟩, ⟨some 30, .not (.t 29), none⟩, ⟨some 27, .mov (.t 30), none⟩]) (.cond (.t 27) (.seq (.reg [⟨some 31, .build [.int .i64 0, .nils] [(0, 1, .c (.int .i64 1))], none⟩, ⟨none, .store 2 (.t 4) (.t 31), none⟩]) .ret) .skip))))))))) (.seq (.reg [⟨some 32, .raw Ex.mkmap, none⟩, ⟨none, .raw (Ex.mput MK.i (.t 32) (.c (.int .i64 1)) (.c (.func (.func 87) [] []))), none⟩, ⟨none, .raw (Ex.mput MK.i (.t 32) (.c (.int .i64 2)) (.c (.func (.func 88) [] []))), none⟩, ⟨none, .raw (Ex.mput MK.i (.t 32) (.c (.int .i64 3)) (.c (.func (.func 89) [] []))), none⟩, ⟨none, .raw (Ex.mput MK.i (.t 32) (.c (.int .i64 4)) (.c (.func (.func 90) [] []))), none⟩, ⟨none, .raw (Ex.mput MK.i (.t 32) (.c (.int .i64 5)) (.c (.func (.func 91) [] []))), none⟩, ⟨some 33, .mov (.t 32), none⟩, ⟨some 5, .mov (.t 33), none⟩]) (.seq (.reg [⟨some 34, .mov (.t 5), none⟩, ⟨some 35, .faddr 0 (.t 3), none⟩, ⟨some 36, .load 1 false (.t 35), none⟩, ⟨some 37, .raw (Ex.look MK.i .nilf false (.t 34) (.t 36)), none⟩, ⟨some 38, .mov (.t 0), none⟩, ⟨some 39, .load 3 true (.t 3), none⟩, ⟨some 40, .callv (.t 37) [.t 38, .t 39], none⟩, ⟨none, .store 2 (.t 4) (.t 40), none⟩]) .ret)))
theorem is_cache_Cache_Do : FnIs Tryz.prog 57 41 c_cache_Cache_Do [.cell 4 2 true] := ⟨Tryz.f57, _, Tryz.func57, rfl, rfl, by kernel_rfl, by kernel_rfl⟩

def c_model_Is : CC := .seq (.reg [⟨some 1, .box 3 (.t 0), none⟩, ⟨some 2, .mov (.c (.bool false)), none⟩]) (.seq (.seq (.reg [⟨some 3, .faddr 0 (.t 1), none⟩, ⟨some 4, .load 1 false (.t 3), none⟩]) (.block 0 (.seq (.seq (.reg [⟨some 6, .bin .eql (.t 4) (.c (.int .i64 1)), none⟩, ⟨some 5, .mov (.t 6), none⟩]) (.cond (.t 5) .skip (.reg [⟨some 7, .bin .eql (.t 4) (.c (.int .i64 4)), none⟩, ⟨some 5, .mov (.t 7), none⟩]))) (.cond (.t 5) (.seq (.reg [⟨some 8, .faddr 1 (.t 1), none⟩, ⟨some 9, .load 1 false (.t 8), none⟩, ⟨some 10, .call 128 [.t 9], none⟩, ⟨some 2, .mov (.t 10), none⟩]) .ret) (.seq (.reg [⟨some 12, .bin .eql (.t 4) (.c (.int .i64 2)), none⟩, ⟨some 11, .mov (.t 12), none⟩]) (.cond (.t 11) (.seq (.reg [⟨some 13, .faddr 1 (.t 1), none⟩, ⟨some 14, .load 1 false (.t 13), none⟩, ⟨some 15, .call 128 [.t 14], none⟩, ⟨some 16, .mov (.t 15), none⟩, ⟨some 17, .faddr 2 (.t 1), some (16, true)⟩, ⟨some 18, .load 1 false (.t 17), some (16, true)⟩, ⟨some 19, .len (.t 18), some (16, true)⟩, ⟨some 20, .bin .eql (.t 19) (.c (.int .i64 32)), some (16, true)⟩, ⟨some 21, .pick (.t 16) (.t 20) (.c (.bool false)), none⟩, ⟨some 2, .mov (.t 21), none⟩]) .ret) (.seq (.seq (.reg [⟨some 23, .bin .eql (.t 4) (.c (.int .i64 3)), none⟩, ⟨some 22, .mov (.t 23), none⟩]) (.cond (.t 22) .skip (.reg [⟨some 24, .bin .eql (.t 4) (.c (.int .i64 5)), none⟩, ⟨some 22, .mov (.t 24), none⟩]))) (.cond (.t 22) (.seq (.reg [⟨some 2, .mov (.c (.bool true)), none⟩]) .ret) .skip)))))))) (.seq (.reg [⟨some 2, .mov (.c (.bool false)), none⟩]) .ret))
theorem is_model_Is : FnIs Tryz.prog 86 25 c_model_Is [.t 2] := ⟨Tryz.f86, _, Tryz.func86, rfl, rfl, by kernel_rfl, by kernel_rfl⟩

def c_cache_Cache_flush : CC := .seq (.reg [⟨some 3, .box 3 (.t 1), none⟩, ⟨some 4, .alloc [.int .i64 0, .nils], none⟩]) (.seq (.reg [⟨some 5, .mov (.t 0), none⟩, ⟨some 6, .call 125 [.t 5], none⟩, ⟨some 7, .build [.int .i64 0, .nils] [(0, 1, .t 6)], none⟩, ⟨none, .store 2 (.t 4) (.t 7), none⟩]) .ret)
theorem is_cache_Cache_flush : FnIs Tryz.prog 89 8 c_cache_Cache_flush [.cell 4 2 true] := ⟨Tryz.f89, _, Tryz.func89, rfl, rfl, by kernel_rfl, by kernel_rfl⟩

def c_cache_Cache_commit : CC := .seq (.reg [⟨some 2, .mov (.c (.int .i64 0)), none⟩]) (.seq (.dreg [⟨some 4, .mov (.t 0), none⟩, ⟨some 5, .nilck (.t 4), none⟩, ⟨some 6, .faddr 0 (.t 5), none⟩, ⟨some 7, .load 1 false (.t 6), none⟩, ⟨some 8, .mov (.t 0), none⟩, ⟨some 9, .nilck (.t 8), none⟩, ⟨some 10, .faddr 1 (.t 9), none⟩, ⟨some 11, .load 1 false (.t 10), none⟩, ⟨some 12, .mov (.t 0), none⟩, ⟨some 13, .nilck (.t 12), none⟩, ⟨some 14, .faddr 2 (.t 13), none⟩, ⟨some 15, .load 1 false (.t 14), none⟩, ⟨some 16, .call 161 [.t 7, .t 11, .t 15], none⟩, ⟨some 3, .mov (.t 16), none⟩] [[], [0], [1], [2], [], [4], [5], [6], [], [8], [9], [10], [3, 7, 11], [12, 12, 0, 1, 2, 3, 4, 5, 6, 7, 8, 9, 10, 11, 12]]) (.seq (.seq (.reg [⟨some 17, .mov (.t 3), none⟩, ⟨some 18, .bin .eql (.t 17) (.c (.int .i64 0)), none⟩]) (.cond (.t 18) (.reg [⟨some 19, .mov (.t 0), none⟩, ⟨some 20, .mov (.t 0), none⟩, ⟨some 21, .nilck (.t 20), none⟩, ⟨some 22, .faddr 2 (.t 21), none⟩, ⟨some 23, .load 1 false (.t 22), none⟩, ⟨some 24, .call 53 [.t 23], none⟩, ⟨some 25, .nilck (.t 19), none⟩, ⟨some 26, .faddr 3 (.t 25), none⟩, ⟨none, .store 1 (.t 26) (.t 24), none⟩]) .skip)) (.seq (.reg [⟨some 27, .mov (.t 3), none⟩, ⟨some 2, .mov (.t 27), none⟩]) .ret)))
theorem is_cache_Cache_commit : FnIs Tryz.prog 125 28 c_cache_Cache_commit [.t 2] := ⟨Tryz.f125, _, Tryz.func125, rfl, rfl, by kernel_rfl, by kernel_rfl⟩

end Go.Proofs.YtafkhpjnihnfpaaGreat


namespace Go.Abs
open Go
section
variable {P : Program} {N : Nat} {e : Env} {h : AHeap} {m : Inj} {w : World} {nm : Nat}
theorem cx_clr {o : Oper} {sz : Nat} {zs : List AV} {x : Opd} (hc : compileX P N o = some (.clr sz zs x)) : ∃ c xo t el i z, o.op = .call c ∧ c.callee = .builtin .clear ∧ c.args.toList = [xo] ∧ c.argTypes[0]? = some t ∧ P.underlying t = some (.slice el) ∧ ofOpd N xo = some x ∧ P.info? el = some i ∧ i.zero = some z ∧ ofL ofV z.cells.toList = some zs ∧ sz = i.size := by
  obtain ⟨c, hop⟩ := cx_call hc trivial
  simp only [compileX, hop] at hc
  split at hc
  case h_4 hcal =>
    repeat' split at hc
    all_goals first
      | (cases hc; exact ⟨_, _, _, _, _, _, hop, hcal, ‹_›, ‹_›, ‹_›, ‹_›, ‹_›, ‹_›, ‹_›, rfl⟩)
      | (cases hc; done)
  all_goals
    (repeat' split at hc
     all_goals (cases hc; done))
theorem XOK.clr {sz : Nat} {zs : List AV} {x : Opd} {id off n : Nat} {c : List (List AV)} (hx : ev e x = some (.ref id off n)) (hg : h.get id = some (.mem sz c)) (hz : zs.length = sz) (h0 : 0 < sz) : XOK P N (.clr sz zs x) e h (some (.tup [])) (.set id (.mem sz (c.take off ++ List.replicate n zs ++ c.drop (off + n)))) := by
  intro o hc e2 hs m w act hr he
  obtain ⟨cl, xo, t, el, i, z, hop, hcal, ha, hat, hu, h1, hinf, hzz, hzs, rfl⟩ := cx_clr hc
  have hx2 : ev e2 x = some (.ref id off n) := (ev_congr fun s h => hs s (by simp [xslots, h])).trans hx
  have ha' : cl.args = #[xo] := by rw [← Array.toArray_toList (xs := cl.args), ha]
  have e1 := he.eval h1 hx2
  generalize hcx : act.eval xo = cx at e1
  obtain ⟨q1, q2, q3⟩ := ofL_ofV (m := m) (h := h) (w := w) hzs
  have hsz : z.cells.size = i.size := by rw [← hz]; simpa using q1.symm
  cases e1 with
  | ref _ _ _ cap a hu' hcp hra =>
    obtain ⟨b, hmb, hle, had, cc, T, hcc, hsz2⟩ := hra _ _ hg
    obtain ⟨b', cc', T', p1, p2, p3, p4⟩ := hr.obj _ _ hg
    rw [hmb] at p1; cases p1
    rw [p2] at hcc; cases hcc
    have hcl : (c.take off ++ List.replicate n zs ++ c.drop (off + n)).length = c.length := by simp; omega
    rcases Nat.eq_zero_or_pos n with hn0 | hn0
    · subst hn0
      have hcc2 : c.take off ++ List.replicate 0 zs ++ c.drop (off + 0) = c := by simp
      rw [hcc2]
      refine ⟨m, w, by show HR m (h.set id _) w; rw [set_same hg]; exact hr, by show Step m h w m (h.set id _) w; rw [set_same hg]; exact Step.refl _ _ _, .tuple #[], ?_, .tup _ _ rfl (by simp)⟩
      simp [execOp, hop, resolve, hcal, ha', invoke, builtin, Builtin.clear_, hat, hcx, run_underlying hu]
    · rcases had with h00 | rfl
      · omega
      · have hmul : (off + n) * i.size ≤ c.length * i.size := Nat.mul_le_mul_right _ hle
        rw [Nat.add_mul] at hmul
        have hzl : (Builtin.zeroCells z.cells n).toList.length = n * i.size := by rw [Array.length_toList, size_zeroCells, hsz]
        have hone : ∀ u ∈ (Builtin.zeroCells z.cells n).toList, u.oneCell' = true := by
          intro u hu2
          obtain ⟨k, hk, rfl⟩ := List.mem_iff_getElem.1 hu2
          rw [hzl] at hk
          have hg2 := zeroCells_get (z := z.cells) (n := n) (k := k) (by rw [hsz]; exact hk)
          have hg3 : (Builtin.zeroCells z.cells n)[k]? = some (Builtin.zeroCells z.cells n).toList[k] := by rw [← Array.getElem?_toList, List.getElem?_eq_getElem]
          rw [hg3] at hg2
          have hm2 : k % z.cells.size < z.cells.size := Nat.mod_lt _ (by omega)
          have hlt : k % z.cells.size < zs.length := by omega
          have := q3 (k % z.cells.size) _ (List.getElem?_eq_getElem hlt)
          have hv2 : z.cells.toList.getD (k % z.cells.size) undef = z.cells.getD (k % z.cells.size) undef := by simp [Array.getD_eq_getD_getElem?, List.getD_eq_getElem?_getD]
          rw [Option.some.inj hg2, ← hv2]
          exact this.scalar_one (q2 _ (List.getElem_mem hlt))
        have hst := run_storeCells_at P b (off * i.size) T (Builtin.zeroCells z.cells n).toList 0 cc w p2 (by rw [hzl]; omega) hone
        simp only [Nat.add_zero] at hst
        generalize hnew : (cc.toList.take (off * i.size) ++ (Builtin.zeroCells z.cells n).toList ++ cc.toList.drop (off * i.size + (Builtin.zeroCells z.cells n).toList.length)).toArray = c2 at hst
        have hsz' : c2.size = cc.size := by rw [← hnew]; simp only [List.size_toArray, List.length_append, List.length_take, List.length_drop, hzl, Array.length_toList]; omega
        have hget : ∀ k, c2.getD k undef = if off * i.size ≤ k ∧ k < off * i.size + n * i.size then (Builtin.zeroCells z.cells n).toList.getD (k - off * i.size) undef else cc.getD k undef := by
          intro k
          rw [← hnew, getD_splice cc _ _ (by rw [hzl]; omega), hzl]
        have hrow : RowF m h w i.size (c.take off ++ List.replicate n zs ++ c.drop (off + n)) (fun k => c2.getD k undef) := by
          have r1 := p4.take off
          have r2 : RowF m h w i.size (List.replicate n zs) (fun k => c2.getD (off * i.size + k) undef) := rowF_zero hzs hsz h0 fun k hk => by
            rw [hget, if_pos ⟨by omega, by omega⟩, Nat.add_sub_cancel_left]
            have hg2 := zeroCells_get (z := z.cells) (n := n) (k := k) (by rw [hsz]; exact hk)
            rw [List.getD_eq_getElem?_getD, Array.getElem?_toList, hg2, hsz]; rfl
          have r3 := p4.drop (off + n)
          have r12 := RowF.append r1 r2
          have hl1 : (c.take off).length = off := by simp; omega
          have hl12 : (c.take off ++ List.replicate n zs).length = off + n := by simp; omega
          refine (RowF.append r12 r3).congr fun k hk => ?_
          rw [hl12, hl1, Nat.add_mul]
          rw [hcl] at hk
          by_cases k1 : k < off * i.size + n * i.size
          · rw [if_pos k1]
            by_cases k2 : k < off * i.size
            · rw [if_pos k2, hget, if_neg (by omega)]
            · rw [if_neg k2, show off * i.size + (k - off * i.size) = k by omega]
          · rw [if_neg k1, hget, if_neg (by omega)]
            congr 1; omega
        obtain ⟨r1, r2⟩ := write_row hr hg hmb p2 hsz' hcl p3 hrow
        refine ⟨_, _, r1, r2, .tuple #[], ?_, .tup _ _ rfl (by simp)⟩
        obtain ⟨n', rfl⟩ : ∃ n', n = n' + 1 := ⟨n - 1, by omega⟩
        simp [execOp, hop, resolve, hcal, ha', invoke, builtin, Builtin.clear_, hat, hcx, run_underlying hu, zeroValue, run_typeInfo' hinf, hzz, hst]
end
end Go.Abs


namespace Go.Abs
open Go
section
variable {P : Program} {N : Nat} {e : Env} {h : AHeap} {m : Inj} {w : World} {nm : Nat}
theorem cx_mkif {o : Oper} {t : Nat} {x : Opd} (hc : compileX P N o = some (.mkif t x)) : ∃ xo u, o.op = .makeInterface t xo ∧ P.underlying t = some u ∧ (∀ ms, u ≠ .interface ms) ∧ ofOpd N xo = some x := by
  cases hop : o.op <;> simp only [compileX, hop] at hc <;> try (cases hc; done)
  case makeInterface t2 xo =>
    split at hc
    · cases hc
    · rename_i u hn hu hx
      cases hc
      exact ⟨_, _, rfl, ‹_›, fun ms e => by subst e; exact hn _ rfl, ‹_›⟩
    · cases hc
  all_goals
    (repeat' split at hc
     all_goals first
       | (cases hc; done)
       | (rw [Option.map_eq_some_iff] at hc; obtain ⟨_, _, h⟩ := hc; cases h; done)
       | contradiction)
theorem XOK.mkif {t : Nat} {x : Opd} {v : AV} (hx : ev e x = some v) : XOK P N (.mkif t x) e h (some (.iface t v)) .none := by
  intro o hc e2 hs m w a hr he
  obtain ⟨xo, u, hop, hu, hn, h1⟩ := cx_mkif hc
  have hx2 : ev e2 x = some v := (ev_congr fun s h => hs s (by simp [xslots, h])).trans hx
  have e1 := he.eval h1 hx2
  refine OpOK.pure hr (cv := .iface t (a.eval xo)) ?_ (.iface _ _ _ e1)
  simp only [execOp, hop, Instr.makeInterface, Sem.run_bind, run_underlying hu, Result.andThen_ok]
  cases u <;> first | rfl | exact absurd rfl (hn _)
theorem cx_asrt {o : Oper} {t : Nat} {ok : Bool} {z : AV} {x : Opd} (hc : compileX P N o = some (.asrt t ok z x)) : ∃ xo xt k, o.op = .typeAssert xo xt t ok ∧ P.underlying t = some (.int k) ∧ ofOpd N xo = some x := by
  cases hop : o.op <;> simp only [compileX, hop] at hc <;> try (cases hc; done)
  case typeAssert xo xt t2 ok2 =>
    repeat' split at hc
    all_goals first
      | (cases hc; exact ⟨_, _, _, rfl, ‹_›, ‹_›⟩)
      | (cases hc; done)
  all_goals
    (repeat' split at hc
     all_goals first
       | (cases hc; done)
       | (rw [Option.map_eq_some_iff] at hc; obtain ⟨_, _, h⟩ := hc; cases h; done)
       | contradiction)
theorem XOK.asrt {t : Nat} {z : AV} {x : Opd} {v : AV} (hx : ev e x = some (.iface t v)) : XOK P N (.asrt t true z x) e h (some (.tup [v, .bool true])) .none := by
  intro o hc e2 hs m w a hr he
  obtain ⟨xo, xt, k, hop, hu, h1⟩ := cx_asrt hc
  have hx2 : ev e2 x = some (.iface t v) := (ev_congr fun s h => hs s (by simp [xslots, h])).trans hx
  have e1 := he.eval h1 hx2
  generalize hcx : a.eval xo = cx at e1
  cases e1 with
  | iface _ _ c q =>
    refine OpOK.pure hr (cv := .tuple #[c, .bool true]) ?_ (.tup _ _ rfl fun i v hi => ?_)
    · simp [execOp, hop, Instr.typeAssert, Sem.run_bind, run_underlying hu, hcx]
    · rcases i with _ | _ | i
      · cases hi; exact q
      · cases hi; exact .bool _
      · simp at hi
/-- The method of a dynamic type, by its name: a pointer's own. -/
def methF (P : Program) (t : Nat) (nm : String) : Option Nat :=
  match P.info? t, P.underlying t with
  | some i, some (.pointer _) => match i.methods.find? (·.name == nm) with
    | some m => if m.path.toList.isEmpty then match m.func with
      | some (f, true) => some f
      | _ => none
      else none
    | none => none
  | _, _ => none
theorem run_method {t f : Nat} {s : String} (hm : methF P t s = some f) (fuel : Nat) (v : Value) (w : World) : (method (fuel + 1) t v s).run P w = .ok (f, v) w := by
  unfold methF at hm
  split at hm
  · rename_i i q hi hu
    split at hm
    · rename_i mt hmt
      split at hm
      · rename_i hp
        split at hm
        · rename_i g hg
          cases hm
          have hp2 : mt.path.toList = [] := by simpa using hp
          simp [method, run_typeInfo' hi, hmt, hp2, follow, hg, receiverAt, run_underlying hu, Place.get]
        · cases hm
      · cases hm
    · cases hm
  · cases hm
theorem cx_inv {o : Oper} {s : String} {x : Opd} {xs : List Opd} (hc : compileX P N o = some (.inv s x xs)) : ∃ c xo, o.op = .call c ∧ c.callee = .invoke xo s ∧ ofOpd N xo = some x ∧ ofL (ofOpd N) c.args.toList = some xs := by
  obtain ⟨c, hop⟩ := cx_call hc trivial
  simp only [compileX, hop] at hc
  repeat' split at hc
  all_goals first
    | (cases hc; exact ⟨_, _, hop, ‹_›, ‹_›, ‹_›⟩)
    | (cases hc; done)
/-- A call of an interface value's method. -/
theorem FX.inv {h' : AHeap} {d : Option Nat} {f t : Nat} {s : String} {x : Opd} {xs : List Opd} {g : Option (Nat × Bool)} {v : AV} {vs : List AV} {r : AV} (hx : ev e x = some (.iface t v)) (hv : evL e xs = some vs) (hg : met e g) (hm : methF P t s = some f) (hb : bodied P f = true) (hac : AE P f (v :: vs) h r h') : FX P N ⟨d, .raw (.inv s x xs), g⟩ e h (some r) h' := by
  intro ops i o ho hc e2 hs m w a K Q hr he hk
  have hraw := compI_raw hc rfl
  rcases compI_ok hc with ⟨hb1, hb2⟩ | ⟨hd, hdst, _, hgd⟩
  · cases hb1
  · obtain ⟨w1, w2⟩ := wanted_of he hgd
    have hi : ∀ s2 ∈ xslots (.inv s x xs), lk s2 e2 = lk s2 e := fun s2 h => hs s2 (by unfold cslots; split <;> simp [islots, h])
    have hw : Region.wanted o (yielded ops a.tmps) = true := by
      cases g with
      | none => exact w1 rfl
      | some sb =>
        obtain ⟨s2, b⟩ := sb
        have hl : lk s2 e2 = some (.bool b) := (hs s2 (by simp [cslots])).trans hg
        rw [w2 s2 b b rfl hl]; simp
    simp only [wpOp, ho]
    rw [if_pos hw]
    left
    obtain ⟨c, y, hop, hcal, hy, hxs⟩ := cx_inv hraw
    have hi1 : ∀ s2 ∈ lslots xs, lk s2 e2 = lk s2 e := fun s2 h => hi s2 (by unfold xslots; simp [h])
    have hi2 : ∀ s2 ∈ oslots x, lk s2 e2 = lk s2 e := fun s2 h => hi s2 (by unfold xslots; simp [h])
    obtain ⟨hl1, hl2⟩ := he.evalL hxs ((evL_congr hi1).trans hv)
    have hfv := he.eval hy ((ev_congr hi2).trans hx)
    generalize hcx : a.eval y = cx at hfv
    cases hfv with
    | iface _ _ cv q =>
      have hx1 : ∀ (u : Value) (X : Array Value), (#[u] ++ X)[0]? = some u := fun u X => by rw [Array.getElem?_append_left (by simp)]; rfl
      have hx2 : ∀ (u : Value) (X : Array Value), (#[u] ++ X).extract 1 (#[u] ++ X).size = X := fun u X => by
        apply Array.ext'
        simp
      have hx3 : P.types.size + Made.depth = (P.types.size + 99) + 1 := rfl
      have hrun : (execOp a.eval o).run P w = .ok (.enter f (#[cv] ++ c.args.map a.eval)) w := by
        simp only [execOp, hop, resolve, hcal, hcx, Sem.run_bind, Sem.run_pure, Result.andThen_ok, invoke, hx1, hx2, callMethod, run_program, hx3, run_method hm, run_callFunc hb]
      refine call_wp hrun hr (by have : vs.length = c.args.size := by simpa using hl1
                                 simp; omega) (fun j v2 hj => ?_) hac fun v2 w' m' r1 h1 g1 g2 g3 ⟨g4, g5⟩ => ?_
      · simp only [Array.getD_eq_getD_getElem?]
        rcases j with _ | j
        · cases hj
          rw [hx1]
          exact q
        · have := hl2 j v2 (by simpa using hj)
          rw [Array.getElem?_append_right (by simp)]
          simpa [List.getD_eq_getElem?_getD] using this
      · subst g4; subst g5
        refine hk m' w' _ g1 ?_ g3
        have hd' : d = o.dst := hd
        show ER N m' h1 w' (putR d (some r1) e2) _
        rw [hd']
        exact (he.step g3).putR hdst g2
/-- What is live is used. -/
theorem WW.live {c : CC} {Q : Exit → Env → AHeap → Prop} (k : (∀ id x, h.get id = some x → h.used id) → WW P N c Q e h) : WW P N c Q e h := ⟨fun code hc m w a hr he => (k hr.live).out code hc m w a hr he⟩
theorem WL.live {l : List CI} {Q : Exit → Env → AHeap → Prop} (k : (∀ id x, h.get id = some x → h.used id) → WL P N l Q e h) : WL P N l Q e h := ⟨fun ops idx h1 h2 m w a hr he => (k hr.live).out ops idx h1 h2 m w a hr he⟩
end
end Go.Abs


namespace Go.Proofs.YtafkhpjnihnfpaaGreat
open Go Go.Abs

def encSl (n : Nat) : List AV := [.int .i64 n]
/-- Ages: when each was used last, ticks, the queue's slots. -/
structure AgS where
  last : List Int
  ticks : Int
  arr : List Nat
def ag0 : AgS := ⟨List.replicate 16 0, 0, []⟩
def AgS.row (s : AgS) (q : Nat) : List AV := s.last.map (.int .i64 ·) ++ [.int .i64 s.ticks, .ptr q 0 0]
/-- The queue's slots, at E if there are any. -/
def SlV (h : AHeap) (v : AV) (arr : List Nat) (E : Nat) : Prop := (v = .nils ∧ arr = []) ∨ (v = .ref E 0 arr.length ∧ BoxAt h E (.mem 1 (arr.map encSl)))
def agF (a : Nat) : AV := .func (.func 81) [.ptr a 0 0] []
structure AgAt (h : AHeap) (a q E : Nat) (s : AgS) : Prop where
  ob : BoxAt h a (.mem 18 [s.row q])
  qo : ∃ v, SlV h v s.arr E ∧ BoxAt h q (.mem 2 [[v, agF a]])
/-- A row of leaves: at E if it may be written. -/
def RowV (h : AHeap) (v : AV) (lv : List Lf) (E : Nat) : Prop := v = .imm 8 (lv.map encL) ∨ (v = .ref E 0 lv.length ∧ BoxAt h E (.mem 8 (lv.map encL)))
/-- A cache's names. -/
structure CaN where
  w : WN
  c : Nat
  k : Nat
  a : Nat
  q : Nat
  nE : Nat
  sE : Nat
/-- What a cache is: its world, numbers, leaves as they are and as they were, ages; is it poisoned? -/
structure CaS where
  s : WS
  boot : Int
  j : Nat
  now : List Lf
  was : List Lf
  ag : AgS
  bad : Bool
def CaN.own (n : CaN) (id : Nat) : Prop := id = n.c ∨ id = n.k ∨ id = n.a ∨ id = n.q ∨ id = n.nE ∨ id = n.sE
structure CaG (md : Bool) (h : AHeap) (n : CaN) (x : CaS) : Prop where
  w : WG md h n.w x.s
  mr : BoxAt h n.k (mkO x.boot x.j)
  c : ∃ v, RowV h v x.now n.nE ∧ BoxAt h n.c (.mem 6 [[.ptr (n.w.a + 10) 0 0, .ptr n.k 0 0, v, .imm 8 (x.was.map encL), .ptr n.a 0 0, .bool x.bad]])
  ag : AgAt h n.a n.q n.sE x.ag
  nm : ∀ id, n.own id → ¬ n.w.nm md id
  lt : ∀ id, n.own id → id < h.next
  dj : n.c ≠ n.k ∧ n.c ≠ n.a ∧ n.c ≠ n.q ∧ n.k ≠ n.a ∧ n.k ≠ n.q ∧ n.a ≠ n.q ∧ (n.nE = n.c ∨ (n.nE ≠ n.k ∧ n.nE ≠ n.a ∧ n.nE ≠ n.q)) ∧ (n.sE = n.q ∨ (n.sE ≠ n.k ∧ n.sE ≠ n.a ∧ n.sE ≠ n.c)) ∧ n.nE ≠ n.sE
section
variable {W : Nat → Prop} {md : Bool} {h h' : AHeap} {n : CaN} {x : CaS}
theorem SlV.kp {v : AV} {arr : List Nat} {E : Nat} (hs : SlV h v arr E) (hk : Kp W h h') (hw : ¬ W E) : SlV h' v arr E := hs.imp id fun q => ⟨q.1, q.2.kp hk hw⟩
theorem RowV.kp {v : AV} {lv : List Lf} {E : Nat} (hs : RowV h v lv E) (hk : Kp W h h') (hw : ¬ W E) : RowV h' v lv E := hs.imp id fun q => ⟨q.1, q.2.kp hk hw⟩
theorem AgAt.kp {a q E : Nat} {s : AgS} (hs : AgAt h a q E s) (hk : Kp W h h') (h1 : ¬ W a) (h2 : ¬ W q) (h3 : ¬ W E) : AgAt h' a q E s := by
  obtain ⟨h4, v, h5, h6⟩ := hs
  exact ⟨h4.kp hk h1, v, h5.kp hk h3, h6.kp hk h2⟩
theorem CaG.kp (hg : CaG md h n x) (hk : Kp W h h') (h1 : ∀ id, n.w.nm md id → ¬ W id) (h2 : ∀ id, n.own id → ¬ W id) : CaG md h' n x := by
  obtain ⟨g1, g2, ⟨v, g3, g4⟩, g5, g6, g8, g7⟩ := hg
  exact ⟨g1.kp hk h1, g2.kp hk (h2 _ (.inr (.inl rfl))), ⟨v, g3.kp hk (h2 _ (.inr (.inr (.inr (.inr (.inl rfl)))))), g4.kp hk (h2 _ (.inl rfl))⟩, g5.kp hk (h2 _ (.inr (.inr (.inl rfl)))) (h2 _ (.inr (.inr (.inr (.inl rfl))))) (h2 _ (.inr (.inr (.inr (.inr (.inr rfl)))))), g6, fun id hi => Nat.lt_of_lt_of_le (g8 id hi) hk.next, g7⟩
theorem CaG.new (hg : CaG md h n x) (hk : Kp (fun _ => False) h h') : CaG md h' n x := hg.kp hk (fun _ _ h => h) fun _ _ h => h
end
theorem clo_encL {u : Nat → Prop} (x : Lf) : ∀ v ∈ encL x, Clo u v := by
  intro v hv
  simp only [encL, List.mem_cons, List.not_mem_nil, or_false] at hv
  rcases hv with rfl | rfl | rfl | rfl | rfl | rfl | rfl | rfl <;> first | exact .int _ _ | exact .bool _
theorem slices_CloneL_ae (l : List Lf) (hl : l.length ≤ 1000000) (h : AHeap) : AE Tryz.prog 53 [.imm 8 (l.map encL)] h (.imm 8 (l.map encL)) h := by
  refine AE.pureW is_slices_Cloneapi_Leaf_api_Leaf (by simp) ?_
  unfold c_slices_Cloneapi_Leaf_api_Leaf
  (repeat first | refine WW.seq ?_ | refine WW.reg ?_ | refine WL.nil ?_ | refine WW.skip ?_ | refine WW.block ?_ | refine thenN ?_ | refine blkN ?_); iterate 1 (refine WL.go ?_)
  (repeat first | refine WW.seq ?_ | refine WW.reg ?_ | refine WL.nil ?_ | refine WW.skip ?_ | refine WW.block ?_ | refine thenN ?_ | refine blkN ?_); iterate 1 (refine WL.go ?_)
  refine WL.fq1 (FQ.isnil rfl (by first | exact True.intro | exact rfl)) ?_
  rintro _ h2 ⟨b, rfl, e2, hb⟩
  subst e2
  (repeat first | refine WW.seq ?_ | refine WW.reg ?_ | refine WL.nil ?_ | refine WW.skip ?_ | refine WW.block ?_ | refine thenN ?_ | refine blkN ?_)
  (refine WW.ifB rfl (fun hz1 => ?_) (fun hz1 => ?_))
  · have : l = [] := by simpa using hb hz1
    subst this
    (refine go ?_)
    refine WW.ret (PureQ.finD ?_)
    exact .nil _
  (refine go ?_)
  refine WW.ret (PureQ.finD ?_)
  exact .app _ _ _ _ fun y hy v hv => by
    obtain ⟨z, _, rfl⟩ := List.mem_map.1 hy
    exact clo_encL z v hv
theorem slices_CloneLR_ae {h : AHeap} {E : Nat} {l : List Lf} (hE : h.get E = some (.mem 8 (l.map encL))) (hl : l.length ≤ 1000000) : AE Tryz.prog 53 [.ref E 0 l.length] h (.imm 8 (l.map encL)) h := by
  refine AE.wf fun hwf => ?_
  have h0 := hwf _ _ hE
  refine AE.pureW is_slices_Cloneapi_Leaf_api_Leaf (by simp) ?_
  unfold c_slices_Cloneapi_Leaf_api_Leaf
  (repeat first | refine WW.seq ?_ | refine WW.reg ?_ | refine WL.nil ?_ | refine WW.skip ?_ | refine WW.block ?_ | refine thenN ?_ | refine blkN ?_); iterate 1 (refine WL.go ?_)
  (repeat first | refine WW.seq ?_ | refine WW.reg ?_ | refine WL.nil ?_ | refine WW.skip ?_ | refine WW.block ?_ | refine thenN ?_ | refine blkN ?_); iterate 1 (refine WL.go ?_)
  refine WL.go (hs := Stp.isnil (t := false) rfl rfl (by first | exact True.intro | exact rfl)) ?_
  (repeat first | refine WW.seq ?_ | refine WW.reg ?_ | refine WL.nil ?_ | refine WW.skip ?_ | refine WW.block ?_ | refine thenN ?_ | refine blkN ?_)
  refine WW.condF rfl ?_
  (refine go ?_)
  refine WW.ret (PureQ.finD ?_)
  rw [List.drop_zero, List.take_of_length_le (by simp)]
  exact .app _ _ _ _ fun y hy v hv => by
    obtain ⟨z, _, rfl⟩ := List.mem_map.1 hy
    exact clo_encL z v hv
theorem age_New_ac (h : AHeap) : AC Tryz.prog 54 [] h (fun r h' => ∃ a q, r = .ptr a 0 0 ∧ AgAt h' a q q ag0 ∧ a ≠ q ∧ h.next ≤ a ∧ h.next ≤ q ∧ Kp (fun _ => False) h h') := by
  refine AC.introW is_age_New (by simp) ?_
  unfold c_age_New
  (refine go ?_)
  refine WW.live fun hl => ?_
  have g1 : (((h.put h.next (.mem 18 [List.replicate 17 (AV.int .i64 0) ++ [.nilp]])).put (h.next + 1) (.mem 2 [[.nils, agF h.next]])).set h.next (some (.mem 18 [ag0.row (h.next + 1)]))).get h.next = some (.mem 18 [ag0.row (h.next + 1)]) := gH
  have g2 : (((h.put h.next (.mem 18 [List.replicate 17 (AV.int .i64 0) ++ [.nilp]])).put (h.next + 1) (.mem 2 [[.nils, agF h.next]])).set h.next (some (.mem 18 [ag0.row (h.next + 1)]))).get (h.next + 1) = some (.mem 2 [[.nils, agF h.next]]) := gH
  exact WW.ret ⟨.inl rfl, _, gRES, h.next, h.next + 1, rfl, ⟨⟨hl _ _ g1, g1⟩, _, .inl ⟨rfl, rfl⟩, ⟨hl _ _ g2, g2⟩⟩, by omega, Nat.le_refl _, by omega, (by repeat first | exact Kp.refl | assumption | with_reducible refine Kp.put ?_ (by omega) _ | with_reducible refine Kp.setN ?_ (by omega) _ | with_reducible refine Kp.keep ?_ _ | with_reducible refine Kp.setW ?_ (by rfl) _)⟩
end Go.Proofs.YtafkhpjnihnfpaaGreat


namespace Go.Proofs.YtafkhpjnihnfpaaGreat
open Go Go.Abs

/-- What is loaded where nothing was committed: a row that may be written. -/
theorem commit_Load0_ac {md : Bool} {h : AHeap} {n : WN} {s : WS} {k : Nat} (hg : WG md h n s) (hs : WSt md s k) (hgo : s.pw.gone = false) (hv : s.ct.value = 0) :
    AC Tryz.prog 50 [.ptr (n.a + 10) 0 0] h
      (fun r h' => ∃ E m, r = .tup [.ref E 0 m, .int .i64 0] ∧ (m : Int) = s.n ∧ BoxAt h' E (.mem 8 ((List.replicate m lf0).map encL)) ∧ h.next ≤ E ∧ Kp (fun _ => False) h h') := by
  refine AC.introW is_commit_Load (by simp) ?_
  unfold c_commit_Load
  have hob := hg.w.w
  simp only [wRow] at hob
  have hgg := isG_cases hs.fit.g
  obtain ⟨m, hm⟩ : ∃ m : Nat, s.n = m := ⟨s.n.toNat, by omega⟩
  rw [hm] at hob
  (refine go ?_)
  refine WL.call rfl (by first | exact True.intro | exact rfl) gSL (power_On_ae hg.w.sd.pw) ?_
  rw [hgo]
  (refine go ?_)
  refine WL.call rfl (by first | exact True.intro | exact rfl) gSL (count_Value_ae (p := n.p) hg.w.ct) ?_
  rw [hv]
  (refine go ?_)
  refine WW.live fun hl => ?_
  refine WW.ret ⟨.inl rfl, _, gRES, h.next, m, rfl, hm.symm, ?_, Nat.le_refl _, (by repeat first | exact Kp.refl | assumption | with_reducible refine Kp.put ?_ (by omega) _ | with_reducible refine Kp.setN ?_ (by omega) _ | with_reducible refine Kp.keep ?_ _ | with_reducible refine Kp.setW ?_ (by rfl) _)⟩
  rw [List.map_replicate]
  exact ⟨hl _ _ gH, gH⟩
theorem cache_finish_ae {md : Bool} {h : AHeap} {n : CaN} {x : CaS} (hg : CaG md h n x) (he : x.s.ks.epochs.length < 2) : AE Tryz.prog 56 [.ptr n.c 0 0] h (.int .i64 0) h := by
  obtain ⟨g1, g2, ⟨v, g3, g4⟩, g5, g6, g8, g7⟩ := hg
  have hc := g4.g
  have hob := g1.w.w
  simp only [wRow] at hob
  refine AE.pureW is_cache_Cache_finish (by simp) ?_
  unfold c_cache_Cache_finish
  (refine go ?_)
  refine WL.call rfl (by first | exact True.intro | exact rfl) gSL (keys_Epochs_ae g1.w.ks) ?_
  (refine go ?_)
  (refine WW.ifB rfl (fun hz1 => ?_) (fun hz1 => ?_))
  · (refine go ?_)
    refine WW.ret (PureQ.finD ?_)
    exact fz_i rfl
  · exfalso
    first | (simp at hz1; omega) | omega | (rw [List.length_map] at hz1; omega)
/-- A cache where nothing was committed. -/
def caNew (s : WS) (m : Nat) : CaS := ⟨s.bootS, s.ct.boots + 1, 0, List.replicate m lf0, List.replicate m lf0, ag0, false⟩
set_option maxHeartbeats 4000000 in
theorem cache_Open0_ac {md : Bool} {h : AHeap} {n : WN} {s : WS} {k : Nat} (hg : WG md h n s) (hs : WSt md s k) (hk : k ≤ 8000) (hf : s.pw.Free) (hv : s.ct.value = 0) (he : s.ks.epochs.length < 2) :
    AC Tryz.prog 26 [.ptr (n.a + 10) 0 0] h
      (fun r h' => ∃ (N : CaN) (m : Nat), r = .tup [.ptr N.c 0 0, .int .i64 0] ∧ N.w = n ∧ (m : Int) = s.n ∧ CaG md h' N (caNew s m) ∧ (∀ id, N.own id → h.next ≤ id) ∧ Kp (n.own md) h h') := by
  refine AC.introW is_cache_Open (by simp) ?_
  unfold c_cache_Open
  have hob := hg.w.w
  simp only [wRow] at hob
  have hna : n.a + 11 ≤ h.next := hg.w.nx
  have hlt : ∀ id, n.nm md id → id < h.next := fun id hi => (hg.us id hi).1
  have hgg := isG_cases hs.fit.g
  obtain ⟨ct1, ct2, ct3⟩ := hs.ct
  (refine go ?_)
  refine WL.call rfl (by first | exact True.intro | exact rfl) gSL (power_On_ae hg.w.sd.pw) ?_
  rw [show s.pw.gone = false from hf.g]
  (refine go ?_)
  refine WL.call rfl (by first | exact True.intro | exact rfl) gSL (boot_ae hg hs (by omega)) ?_
  have hcan := hf.can
  have hbc := boot_ct hf
  refine WL.named (fun h2 => WG md h2 n s.bootS ∧ Kp (n.own md) h h2) ⟨hg.boot, kp_ct n _ _⟩ ?_
  rintro h2 ⟨g2, k2⟩
  have hx2 := k2.next
  have hs2 := hs.boot
  have hf2 : s.bootS.pw.Free := hf.spend
  rw [hcan]
  clear hob
  have hob := g2.w.w
  simp only [wRow] at hob
  (refine go ?_)
  refine WL.callA rfl (by first | exact True.intro | exact rfl) gSL (commit_Load0_ac g2 hs2 hf2.g (by rw [hbc]; exact hv)) ?_
  rintro _ h3 ⟨E, m, rfl, hm, bE, hE, k3⟩
  have hm' : (m : Int) = s.n := hm
  have g3 := g2.new k3
  have hx3 := k3.next
  have hct := g3.w.ct
  rw [hbc] at hct
  clear hob g2
  have hob := g3.w.w
  simp only [wRow] at hob
  (refine go ?_)
  refine WL.call rfl (by first | exact True.intro | exact rfl) gSL (count_Boots_ae (p := n.p) hct) ?_
  (refine go ?_)
  refine WL.call rfl (by first | exact True.intro | exact rfl) gSL (nonce_New_ae rfl (s.ct.boots + 1) (by omega)) ?_
  have hElt : E < h3.next := bE.u.1
  refine WL.named (fun h4 => WG md h4 n s.bootS ∧ Kp (fun _ => False) h3 h4 ∧ BoxAt h4 h3.next (mkO (s.ct.boots + 1) 0) ∧ BoxAt h4 E (.mem 8 ((List.replicate m lf0).map encL))) ⟨g3.new (by repeat first | exact Kp.refl | assumption | with_reducible refine Kp.put ?_ (by omega) _ | with_reducible refine Kp.setN ?_ (by omega) _ | with_reducible refine Kp.keep ?_ _ | with_reducible refine Kp.setW ?_ (by rfl) _), (by repeat first | exact Kp.refl | assumption | with_reducible refine Kp.put ?_ (by omega) _ | with_reducible refine Kp.setN ?_ (by omega) _ | with_reducible refine Kp.keep ?_ _ | with_reducible refine Kp.setW ?_ (by rfl) _), ⟨put_used_nm, gH⟩, bE.kp (W := fun _ => False) (by repeat first | exact Kp.refl | assumption | with_reducible refine Kp.put ?_ (by omega) _ | with_reducible refine Kp.setN ?_ (by omega) _ | with_reducible refine Kp.keep ?_ _ | with_reducible refine Kp.setW ?_ (by rfl) _) (fun h => h)⟩ ?_
  have hmkN : ∀ id, n.nm md id → id < h3.next := fun id hi => by have := hlt id hi; omega
  rintro h4 ⟨g4, k4, b4, e4⟩
  have hx4 := k4.next
  generalize h3.next = mk at *
  have hmk4 : mk < h4.next := b4.u.1
  clear hob g3
  have hob := g4.w.w
  simp only [wRow] at hob
  (refine go ?_)
  have e4' := e4.g
  have hCl := slices_CloneLR_ae e4.g (by simp; omega)
  rw [List.length_replicate] at hCl
  refine WL.call rfl (by first | exact True.intro | exact rfl) gSL (hCl) ?_
  (refine go ?_)
  refine WL.callA rfl (by first | exact True.intro | exact rfl) gSL (age_New_ac _) ?_
  rintro _ h5 ⟨a, q, rfl, ag5, haq, ha, hq, k5⟩
  have hx5 := k5.next
  have hap : a < h5.next := ag5.ob.u.1
  have hqp : q < h5.next := by obtain ⟨v, _, h6⟩ := ag5.qo; exact h6.u.1
  have g5 := g4.new k5
  have b5 := b4.kp k5 (fun h => h)
  have e5 := e4.kp k5 (fun h => h)
  clear hob e4'
  (repeat first | refine WW.seq ?_ | refine WW.reg ?_ | refine WL.nil ?_ | refine WW.skip ?_ | refine WW.block ?_ | refine thenN ?_ | refine blkN ?_); iterate 3 (refine WL.go ?_)
  refine WL.named (fun h6 => CaG md h6 ⟨n, h5.next, mk, a, q, E, q⟩ (caNew s m) ∧ Kp (fun _ => False) h5 h6 ∧ BoxAt h6 E (.mem 8 ((List.replicate m lf0).map encL))) ⟨⟨g5.new (by repeat first | exact Kp.refl | assumption | with_reducible refine Kp.put ?_ (by omega) _ | with_reducible refine Kp.setN ?_ (by omega) _ | with_reducible refine Kp.keep ?_ _ | with_reducible refine Kp.setW ?_ (by rfl) _), b5.kp (W := fun _ => False) (by repeat first | exact Kp.refl | assumption | with_reducible refine Kp.put ?_ (by omega) _ | with_reducible refine Kp.setN ?_ (by omega) _ | with_reducible refine Kp.keep ?_ _ | with_reducible refine Kp.setW ?_ (by rfl) _) (fun h => h), ⟨.ref E 0 m, .inr ⟨by simp [caNew], e5.kp (W := fun _ => False) (by repeat first | exact Kp.refl | assumption | with_reducible refine Kp.put ?_ (by omega) _ | with_reducible refine Kp.setN ?_ (by omega) _ | with_reducible refine Kp.keep ?_ _ | with_reducible refine Kp.setW ?_ (by rfl) _) (fun h => h)⟩, ⟨put_used_nm, gH⟩⟩, ag5.kp (W := fun _ => False) (by repeat first | exact Kp.refl | assumption | with_reducible refine Kp.put ?_ (by omega) _ | with_reducible refine Kp.setN ?_ (by omega) _ | with_reducible refine Kp.keep ?_ _ | with_reducible refine Kp.setW ?_ (by rfl) _) (fun h => h) (fun h => h) (fun h => h), ?_, ?_, ?_⟩, (by repeat first | exact Kp.refl | assumption | with_reducible refine Kp.put ?_ (by omega) _ | with_reducible refine Kp.setN ?_ (by omega) _ | with_reducible refine Kp.keep ?_ _ | with_reducible refine Kp.setW ?_ (by rfl) _), e5.kp (W := fun _ => False) (by repeat first | exact Kp.refl | assumption | with_reducible refine Kp.put ?_ (by omega) _ | with_reducible refine Kp.setN ?_ (by omega) _ | with_reducible refine Kp.keep ?_ _ | with_reducible refine Kp.setW ?_ (by rfl) _) (fun h => h)⟩ ?_
  · intro id hid hn
    have := hlt id hn
    rcases hid with rfl | rfl | rfl | rfl | rfl | rfl <;> (dsimp only at *; omega)
  · intro id hid
    have hL : h5.next < (((h5.put h5.next (.mem 6 [[.ptr (n.a + 10) 0 0, .ptr mk 0 0, .ref E 0 m, .imm 8 ((List.replicate m lf0).map encL), .ptr a 0 0, .bool false]])))).next := (ltN gN (by omega))
    rcases hid with rfl | rfl | rfl | rfl | rfl | rfl <;> first | omega | (dsimp only; omega)
  · dsimp only
    refine ⟨by omega, by omega, by omega, by omega, by omega, haq, .inr ⟨by omega, by omega, by omega⟩, .inl rfl, by omega⟩
  have hc5 : h.next ≤ h5.next := by omega
  generalize h5.next = c at *
  clear g5 b5 e5 ag5 g4 b4 e4 bE
  rintro h6 ⟨g6, k6, e6⟩
  have k7 : Kp (n.own md) h h6 := k2.trans ((k3.trans (k4.trans (k5.trans k6))).mono fun _ _ h => h.elim)
  clear k2 k3 k4 k5 k6
  (refine go ?_)
  refine WW.loopE (fun (i : Nat) => [(7, some (.ptr c 0 0)), (57, some (.ref E 0 m)), (58, some (.int .i64 m)), (59, some (.int .i64 i))])
    (fun i h' => Kp (fun _ => False) h6 h' ∧ i ≤ m) (fun i => m - i) 0 gSUB ⟨Kp.refl, Nat.zero_le _⟩ ?_
  rintro i h7 ⟨k8, hi⟩
  have g7 := g6.new k8
  have hx6 := k8.next
  (refine go ?_)
  (refine WW.ifB rfl (fun hz1 => ?_) (fun hz1 => ?_))
  · have hi2 : i < m := by omega
    have e7 := (e6.kp k8 (fun h => h)).g
    have hlr : (List.replicate m lf0).length = m := by simp
    have hlf : ∀ (j : Nat) (hj : j < (List.replicate m lf0).length), (List.replicate m lf0)[j] = lf0 := fun j hj => List.getElem_replicate _
    (refine go ?_)
    (refine WW.ifB rfl (fun hz2 => ?_) (fun hz2 => ?_))
    · exfalso
      rw [hlf] at hz2
      simp [lf0] at hz2
    (refine go ?_)
    exact ⟨i + 1, gSUB, ⟨(by repeat first | exact Kp.refl | assumption | with_reducible refine Kp.put ?_ (by omega) _ | with_reducible refine Kp.setN ?_ (by omega) _ | with_reducible refine Kp.keep ?_ _ | with_reducible refine Kp.setW ?_ (by rfl) _), by omega⟩, by omega⟩
  · have hi2 : i = m := by omega
    (refine go ?_)
    refine WL.call rfl (by first | exact True.intro | exact rfl) gSL (cache_finish_ae g7 he) ?_
    (refine go ?_)
    exact WW.ret ⟨.inl rfl, _, gRES, ⟨n, c, mk, a, q, E, q⟩, m, rfl, rfl, hm', g7, fun id hid => by rcases hid with rfl | rfl | rfl | rfl | rfl | rfl <;> first | omega | (dsimp only; omega), k7.trans (k8.mono fun _ _ h => h.elim)⟩
end Go.Proofs.YtafkhpjnihnfpaaGreat


namespace Go.Proofs.YtafkhpjnihnfpaaGreat
open Go Go.Abs

/-- A box: its world, its cache, its copies. -/
def boxO (w : Nat) (c : AV) (snaps : AV) : AObj := .mem 3 [[.ptr w 0 0, c, snaps]]
set_option maxHeartbeats 1000000 in
theorem play_New_ac (md : Bool) (m : Nat) (hk : isG m = true) (seed : Int) (h : AHeap) : AC Tryz.prog 12 [.int .i64 m, .int .u64 seed, .bool md] h
    (fun r h' => ∃ (N : CaN) (b : Nat), r = .tup [.ptr b 0 0, .int .i64 0] ∧ CaG md h' N (caNew (ws0 m seed) m) ∧ BoxAt h' b (boxO (N.w.a + 10) (.ptr N.c 0 0) .nils) ∧ (∀ id, N.w.nm md id → h.next ≤ id) ∧ (∀ id, N.own id → h.next ≤ id) ∧ h.next ≤ b ∧ (¬ N.w.nm md b ∧ ¬ N.own b) ∧ Kp (fun id => h.next ≤ id) h h') := by
  refine AC.introW is_play_New (by simp) ?_
  unfold c_play_New
  (refine go ?_)
  refine WL.callA rfl (by first | exact True.intro | exact rfl) gSL (world_NewG_ac md m hk seed h) ?_
  rintro _ h1 ⟨n, rfl, g1, hn, k1⟩
  have hx1 := k1.next
  have S0 := wst0 md hk seed
  have hf0 := free_ws0 m seed
  (refine go ?_)
  refine WL.callA rfl (by first | exact True.intro | exact rfl) gSL (cache_Open0_ac g1 S0 (by omega) hf0 rfl (by simp [ws0])) ?_
  rintro _ h2 ⟨N, m', rfl, rfl, hm', g2, hN, k2⟩
  have hmm : m' = m := by have : (m' : Int) = m := hm'; omega
  subst hmm
  have hx2 := k2.next
  have hNlt := g2.lt
  have hwlt : ∀ id, N.w.nm md id → id < h2.next := fun id hi => (g2.w.us id hi).1
  (refine go ?_)
  refine WW.ret ⟨.inl rfl, _, gRES, N, h2.next, rfl, g2.new (by repeat first | exact Kp.refl | assumption | with_reducible refine Kp.put ?_ (by omega) _ | with_reducible refine Kp.setN ?_ (by omega) _ | with_reducible refine Kp.keep ?_ _ | with_reducible refine Kp.setW ?_ (by rfl) _), ⟨put_used_nm, gH⟩, hn, fun id hi => Nat.le_trans hx1 (hN id hi), by omega, ⟨fun hi => by have := hwlt _ hi; omega, fun hi => by have := hNlt _ hi; omega⟩, ?_⟩
  exact k1.trans ((k2.mono fun id _ hi => hn id (.inl (WN.own_all hi))).trans (((by repeat first | exact Kp.refl | assumption | with_reducible refine Kp.put ?_ (by omega) _ | with_reducible refine Kp.setN ?_ (by omega) _ | with_reducible refine Kp.keep ?_ _ | with_reducible refine Kp.setW ?_ (by rfl) _) : Kp (fun _ => False) h2 _).mono fun _ _ h => h.elim))
theorem play_NewN_ae (md : Bool) (k : Int) (hk : isG k = false) (seed : Int) (h : AHeap) : AE Tryz.prog 12 [.int .i64 k, .int .u64 seed, .bool md] h (.tup [.nilp, .int .i64 1]) h := by
  refine AE.pureW is_play_New (by simp) ?_
  unfold c_play_New
  (refine go ?_)
  refine WL.call rfl (by first | exact True.intro | exact rfl) gSL (world_New_no md k hk seed _) ?_
  (refine go ?_)
  refine WW.ret (PureQ.finD ?_)
  exact .clo _ (.tup _ fun v hv => by
    simp only [List.mem_cons, List.not_mem_nil, or_false] at hv
    rcases hv with rfl | rfl
    · exact .nilp
    · exact .int _ _)
theorem fz_told {h h1 : AHeap} (e : Int) : Fz h h1 (.agg [.int .i64 e, .nils]) (.agg [.int .i64 e, .nils]) := .clo _ (.agg _ fun v hv => by
  simp only [List.mem_cons, List.not_mem_nil, or_false] at hv
  rcases hv with rfl | rfl
  · exact .int _ _
  · exact .nils)
theorem box_Do0_ae {h : AHeap} {b : Nat} : AE Tryz.prog 13 [.ptr b 0 0, .agg [.int .i64 0, .int .i64 0, .int .i64 0, .nils, .int .i64 0, .int .i64 0, .nils, .nils]] h (.agg [.int .i64 1, .nils]) h := by
  refine AE.pureW is_play_Box_Do (by simp) ?_
  unfold c_play_Box_Do
  (refine go ?_)
  refine WW.ret (PureQ.finD ?_)
  exact fz_told _
theorem box_Back0_ae {h : AHeap} {b : Nat} {w c : AV} (hb : h.get b = some (.mem 3 [[w, c, .nils]])) : AE Tryz.prog 13 [.ptr b 0 0, .agg [.int .i64 6, .int .i64 0, .int .i64 0, .nils, .int .i64 0, .int .i64 0, .nils, .nils]] h (.agg [.int .i64 1, .nils]) h := by
  refine AE.wf fun hwf => ?_
  have h0 := hwf _ _ hb
  have hB : ∀ h2 : AHeap, h2.get b = some (.mem 3 [[w, c, .nils]]) → AE Tryz.prog 31 [.ptr b 0 0, .int .i64 0] h2 (.int .i64 1) h2 := fun h2 hb2 => by
    refine AE.pureW is_play_Box_back (by simp) ?_
    unfold c_play_Box_back
    (refine go ?_)
    refine WW.ret (PureQ.finD ?_)
    exact fz_i rfl
  refine AE.pureW is_play_Box_Do (by simp) ?_
  unfold c_play_Box_Do
  (refine go ?_)
  refine WL.call rfl (by first | exact True.intro | exact rfl) gSL (hB _ gH) ?_
  (refine go ?_)
  refine WW.ret (PureQ.finD ?_)
  exact fz_told _
theorem box_World_ae {h : AHeap} {b : Nat} {w : Nat} {c s : AV} (hb : h.get b = some (.mem 3 [[.ptr w 0 0, c, s]])) (hw : h.used w) : AE Tryz.prog 16 [.ptr b 0 0] h (.ptr w 0 0) h := by
  refine AE.pureW is_play_Box_World (by simp) ?_
  unfold c_play_Box_World
  (refine go ?_)
  refine WW.ret (PureQ.finD ?_)
  exact .clo _ (.ptr _ _ _ hw)
theorem box_Cache_ae {h : AHeap} {b : Nat} {c : Nat} {w s : AV} (hb : h.get b = some (.mem 3 [[w, .ptr c 0 0, s]])) (hw : h.used c) : AE Tryz.prog 17 [.ptr b 0 0] h (.ptr c 0 0) h := by
  refine AE.pureW is_play_Box_Cache (by simp) ?_
  unfold c_play_Box_Cache
  (refine go ?_)
  refine WW.ret (PureQ.finD ?_)
  exact .clo _ (.ptr _ _ _ hw)
end Go.Proofs.YtafkhpjnihnfpaaGreat


namespace Go.Proofs.YtafkhpjnihnfpaaGreat
open Go Go.Abs

set_option maxHeartbeats 1000000 in
theorem law29_known_ae (h : AHeap) : AE Tryz.prog 14 [] h (.bool true) h := by
  refine AE.pureW is_law29_known (by simp) ?_
  unfold c_law29_known
  (refine go ?_)
  refine WL.callA rfl (by first | exact True.intro | exact rfl) gSL (play_New_ac true 4 rfl 1 h) ?_
  rintro _ h1 ⟨N, b, rfl, g1, b1, hn, hN, hb, hnb, k1⟩
  (refine go ?_)
  refine WL.call rfl (by first | exact True.intro | exact rfl) gSL (play_NewN_ae true 3 rfl 1 _) ?_
  have hbg := b1.g
  simp only [boxO] at hbg
  (refine go ?_)
  refine WL.call rfl (by first | exact True.intro | exact rfl) gSL (box_Back0_ae hbg) ?_
  (refine go ?_)
  refine WL.call rfl (by first | exact True.intro | exact rfl) gSL (box_Do0_ae) ?_
  (refine go ?_)
  have k2 := k1.keeps (fun _ h => h)
  refine WW.ret (PureQ.finD ?_)
  exact fz_b rfl
end Go.Proofs.YtafkhpjnihnfpaaGreat


namespace Go.Abs
open Go
section
variable {P : Program} {N : Nat} {e e' : Env} {h h' : AHeap} {l : List CI} {es : List (List Nat)} {Q : Exit → Env → AHeap → Prop}
/-- Operations in one row, each by what holds behind it. -/
def RunL (P : Program) (N : Nat) (Q : Exit → Env → AHeap → Prop) : List CI → Env → AHeap → Prop
  | [], e, h => Q .normal e h
  | c :: l, e, h => FXR P N c e h (fun r h2 => RunL P N Q l (putR c.d r e) h2)
theorem RunL.call {d : Option Nat} {f : Nat} {xs : List Opd} {g : Option (Nat × Bool)} {us vs : List AV} {R : AV → AHeap → Prop} (hv : evL e xs = some us) (hg : met e g) (hs : SubL us vs) (hac : AC P f vs h R) (k : ∀ r h', R r h' → RunL P N Q l (putR d (some r) e) h') : RunL P N Q (⟨d, .call f xs, g⟩ :: l) e h :=
  FXR.call hv hg hs hac k
theorem RunL.go {c : CI} (k : RunL P N Q l e' h') (hs : Stp c e h e' h' := by exact Stp.auto) : RunL P N Q (c :: l) e h :=
  FXR.stp hs fun r he => by subst he; exact k
theorem RunL.fx {c : CI} {r : Option AV} (hx : FX P N c e h r h') (k : RunL P N Q l (putR c.d r e) h') : RunL P N Q (c :: l) e h := FXR.of hx k
theorem RunL.endL (hq : Q .normal e h) : RunL P N Q [] e h := hq
theorem RunL.live (k : (∀ id x, h.get id = some x → h.used id) → RunL P N Q l e h) (hl : l ≠ []) : RunL P N Q l e h := by
  cases l with
  | nil => exact absurd rfl hl
  | cons c l => exact fun ops i o ho hc m w a K QQ hr he hk => (k hr.live) ops i o ho hc m w a K QQ hr he hk
/-- Operations that leave the heap, in the text's order. -/
inductive PW (P : Program) (N : Nat) (K : Env → AHeap → Prop) : List CI → Env → AHeap → Prop
  | nil {e : Env} {h : AHeap} (hk : K e h) : PW P N K [] e h
  | fx {c : CI} {l : List CI} {e : Env} {h : AHeap} {r : Option AV} (hx : FX P N c e h r h) (k : PW P N K l (putR c.d r e) h) : PW P N K (c :: l) e h
theorem PW.go {K : Env → AHeap → Prop} {c : CI} (k : PW P N K l e' h) (hs : Stp c e h e' h := by exact Stp.auto) : PW P N K (c :: l) e h := by
  obtain ⟨r, he, hx, _⟩ := FX.of_stp (P := P) (N := N) hs
  subst he
  exact .fx hx k
theorem PW.call {K : Env → AHeap → Prop} {d : Option Nat} {f : Nat} {xs : List Opd} {g : Option (Nat × Bool)} {us vs : List AV} {r : AV} (hv : evL e xs = some us) (hg : met e g) (hs : SubL us vs) (hac : AE P f vs h r h) (k : PW P N K l (putR d (some r) e) h) : PW P N K (⟨d, .call f xs, g⟩ :: l) e h :=
  .fx (FX.call hg hv (hac.sub hs)) k
theorem PW.trace {K : Env → AHeap → Prop} : ∀ {l : List CI} {e : Env} {h : AHeap}, PW P N K l e h → ∃ (ee : Nat → Env) (rr : Nat → Option AV), ee 0 = e ∧ K (ee l.length) h ∧ ∀ i, i < l.length → FX P N (l.getD i default) (ee i) h (rr i) h ∧ ee (i + 1) = putR (l.getD i default).d (rr i) (ee i) := by
  intro l e h hd
  induction hd with
  | @nil e h hk => exact ⟨fun _ => e, fun _ => none, rfl, hk, fun i hi => by simp at hi⟩
  | @fx c l e h r hx k ih =>
    obtain ⟨ee, rr, q1, q2, q3⟩ := ih
    refine ⟨fun i => match i with | 0 => e | i + 1 => ee i, fun i => match i with | 0 => r | i + 1 => rr i, rfl, q2, fun i hi => ?_⟩
    cases i with
    | zero => exact ⟨hx, q1⟩
    | succ i => exact q3 i (by simpa using hi)
def chkC (l : List CI) (es : List (List Nat)) (c : Nat) : Bool :=
  es.length == l.length && decide (c < l.length) && ((List.range l.length).all fun j => (es.getD j []).all (fun k => decide (k < j))) &&
  ((List.range c).all fun i => ((ancs es []).getD c 0).testBit i) && ((List.range l.length).all fun j => !decide (c < j) || ((ancs es []).getD j 0).testBit (j - 1)) &&
  ((List.range c).all fun j => (List.range j).all fun i => !touch l [] [] i j || ((ancs es []).getD j 0).testBit i)
theorem eD_other {c : Nat → CI} {rr : Nat → Option AV} {D D' : Nat → Bool} {s : Nat} : ∀ n, (∀ k, k < n → (c k).d = some s → D' k = D k) → lk s (eD c rr e D' n) = lk s (eD c rr e D n)
  | 0, _ => rfl
  | n + 1, hk => by
    have ih := eD_other (rr := rr) n fun k h1 => hk k (by omega)
    simp only [eD]
    by_cases hd : (c n).d = some s
    · rw [hk n (by omega) hd]
      split
      · rw [hd, lk_putR_same, lk_putR_same]
      · exact ih
    · have e1 : ∀ (b : Bool) (x : Env), lk s (if b = true then putR (c n).d (rr n) x else x) = lk s x := fun b x => by cases b <;> simp [lk_putR_ne hd]
      rw [e1, e1]; exact ih
theorem ER.lkE {m : Inj} {w : World} {a : Act} {e1 e2 : Env} (he : ER N m h w e1 a) (hs : ∀ s, lk s e2 = lk s e1) : ER N m h w e2 a := ⟨he.size, he.defers, fun i v hv => he.val i v ((hs i).symm.trans hv)⟩
theorem FXR.lkE {c : CI} {e1 e2 : Env} {R : Option AV → AHeap → Prop} (hx : FXR P N c e1 h R) (hs : ∀ s, lk s e2 = lk s e1) : FXR P N c e2 h R := fun ops i o ho hc m w a K QQ hr he hk =>
  hx ops i o ho hc m w a K QQ hr (he.lkE fun s => (hs s).symm) fun m' w' a' r h' h1 h2 h3 h4 => hk m' w' a' r h' h1 h2 (h3.lkE (lk_putR_congr hs)) h4
theorem WW.sub {c : CC} {Q' : Exit → Env → AHeap → Prop} (hw : WW P N c Q' e h) (hq : ∀ ex e h, Q' ex e h → ∃ e3, (∀ s, lk s e3 = lk s e) ∧ Q ex e3 h) : WW P N c Q e h :=
  ⟨fun code hc m w a hr he => wp_mono (hw.out code hc m w a hr he) fun ex a' w' ⟨m', e', h', g1, g2, g3, g4⟩ => by
    obtain ⟨e3, h1, h2⟩ := hq _ _ _ g4
    exact ⟨m', e3, h', g1, g2.lkE h1, g3, h2⟩⟩
theorem touch_d {i j s : Nat} (h1 : (l.getD i default).d = some s) (h2 : (l.getD j default).d = some s) : touch l [] [] i j = true := by simp only [touch, h1, h2]; simp
theorem touch_s {i j s : Nat} (h1 : (l.getD i default).d = some s) (h2 : s ∈ cslots (l.getD j default)) : touch l [] [] i j = true := by
  simp only [touch, Bool.or_eq_true, List.any_eq_true]
  exact .inl (.inl (.inl ⟨s, h2, by rw [dslot, h1]; simp⟩))
theorem touch_r {i j s : Nat} (h1 : (l.getD j default).d = some s) (h2 : s ∈ cslots (l.getD i default)) : touch l [] [] i j = true := by
  simp only [touch, Bool.or_eq_true, List.any_eq_true]
  exact .inl (.inl (.inr ⟨s, h2, by rw [dslot, h1]; simp⟩))
theorem WW.dregC [MO P] (c : Nat) (hc : chkC l es c = true) (hwk : PW P N (fun e1 h1 => RunL P N Q (l.drop c) e1 h1) (l.take c) e h) : WW P N (.dreg l es) Q e h := by
  simp only [chkC, Bool.and_eq_true, beq_iff_eq, List.all_eq_true, List.mem_range, decide_eq_true_eq, Bool.or_eq_true, Bool.not_eq_true', decide_eq_false_iff_not] at hc
  obtain ⟨⟨⟨⟨⟨c1, c2⟩, c3⟩, c4⟩, c5⟩, c6⟩ := hc
  have anc : ∀ j i, ((ancs es []).getD j 0).testBit i = true → Reach es i j := ancs_ok es es [] rfl (fun j i hb => by simp at hb)
  obtain ⟨ee, rr, t1, t2, t3⟩ := hwk.trace
  have hlen : (l.take c).length = c := by simp; omega
  rw [hlen] at t2 t3
  have hget : ∀ i, i < c → (l.take c).getD i default = l.getD i default := fun i hi => by
    simp [List.getD_eq_getElem?_getD, List.getElem?_take, hi]
  have t4 : ∀ i, i < c → FX P N (l.getD i default) (ee i) h (rr i) h ∧ ee (i + 1) = putR (l.getD i default).d (rr i) (ee i) := fun i hi => by
    have := t3 i hi
    rw [hget i hi] at this
    exact this
  refine WW.sub (Q' := fun ex e h => ∃ e3, (∀ s, lk s e3 = lk s e) ∧ Q ex e3 h) ?_ fun ex e h hh => hh
  refine WW.dregI (fun D e1 h1 => (D c = false ∧ (∀ j, D j = true → j < c) ∧ h1 = h ∧ ∀ s, lk s e1 = lk s (eD (fun j => l.getD j default) rr e D c)) ∨
    ∃ k e3, c < k ∧ k ≤ l.length ∧ (∀ j, D j = decide (j < k)) ∧ (∀ s, lk s e3 = lk s e1) ∧ RunL P N Q (l.drop k) e3 h1) (by
      simp only [Bool.and_eq_true, beq_iff_eq, List.all_eq_true, List.mem_range, decide_eq_true_eq]
      exact ⟨c1, c3⟩) (.inl ⟨rfl, (fun j hj => by cases hj), rfl, fun s => ?_⟩) ?_ ?_
  · have := eD_stop (c := fun j => l.getD j default) (rr := rr) (e := e) (D := fun _ => false) (s := s) (i := 0) c (Nat.zero_le _) (fun _ _ _ _ => rfl)
    rw [this]; rfl
  · intro D e1 h1 i hi hDi hpre hcl hlive hI
    have hdone : ∀ {a b : Nat}, Reach es a b → (∀ k ∈ es.getD b [], D k = true) → D a = true := fun hr hp => Reach.done hcl hr hp
    have hcl2 : ∀ {a b : Nat}, Reach es a b → D b = true → D a = true := fun hr hb => Reach.done hcl hr (hcl _ hb)
    rcases hI with ⟨i1, i2, i3, i4⟩ | ⟨k, e3, k1, k2, k3, k4, k5⟩
    · rcases Nat.lt_trichotomy i c with hlt | rfl | hgt
      · subst i3
        obtain ⟨f1, f2⟩ := t4 i hlt
        have hag : ∀ s ∈ cslots (l.getD i default), lk s e1 = lk s (ee i) := fun s hs => by
          rw [i4 s, eD_stop (i := i) c (by omega) (fun k h2 h3 hd => ?_), eD_text t1 (fun j hj => (t4 j (by omega)).2) i (Nat.le_refl _) (fun k hk hd => ?_)]
          · have := c6 i hlt k hk
            rw [touch_s hd hs] at this
            exact hdone (anc i k (by simpa using this)) hpre
          · rcases Nat.eq_or_lt_of_le h2 with rfl | h2
            · exact hDi
            · cases hDk : D k with
              | false => rfl
              | true =>
                have := c6 k h3 i h2
                rw [touch_r hd hs] at this
                have := hcl2 (anc k i (by simpa using this)) hDk
                rw [hDi] at this; cases this
        have hx : FXR P N (l.getD i default) e1 h1 (fun r h2 => r = rr i ∧ h2 = h1) := fun ops i' o ho hcc m w a K QQ hr he hk =>
          f1 ops i' o ho hcc e1 hag m w a K QQ hr he fun m' w' a' g1 g2 g3 => hk m' w' a' _ _ ⟨rfl, rfl⟩ g1 g2 g3
        refine fun ops i' o ho hcc m w a K QQ hr he hk => hx ops i' o ho hcc m w a K QQ hr he fun m' w' a' r h2 hR g1 g2 g3 => hk m' w' a' r h2 (fun _ => ?_) g1 g2 g3
        obtain ⟨rfl, rfl⟩ := hR
        refine .inl ⟨by show (if c = i then true else D c) = false; rw [if_neg (by omega)]; exact i1, fun j hj => ?_, rfl, fun s => ?_⟩
        · by_cases hji : j = i
          · omega
          · exact i2 j (by simpa [hji] using hj)
        · by_cases hd : (l.getD i default).d = some s
          · have hlat : ∀ k, i + 1 ≤ k → k < c → (l.getD k default).d = some s → (if k = i then true else D k) = false := fun k h2 h3 hdk => by
              rw [if_neg (by omega)]
              cases hDk : D k with
              | false => rfl
              | true =>
                have := c6 k h3 i (by omega)
                rw [touch_d hd hdk] at this
                have := hcl2 (anc k i (by simpa using this)) hDk
                rw [hDi] at this; cases this
            rw [eD_stop (c := fun j => l.getD j default) (i := i + 1) c (by omega) hlat]
            simp only [eD, if_true]
            rw [hd, lk_putR_same, lk_putR_same]
          · rw [lk_putR_ne hd, i4 s]
            refine (eD_other c fun k hk hdk => ?_).symm
            have : k ≠ i := fun e => by subst e; exact hd hdk
            simp [this]
      · subst i3
        have hall : ∀ j, j < i → D j = true := fun j hj => hdone (anc i j (c4 j hj)) hpre
        have hee : ∀ s, lk s e1 = lk s (ee i) := fun s => by
          rw [i4 s]
          exact eD_text t1 (fun j hj => (t4 j hj).2) i (Nat.le_refl _) fun k hk _ => hall k hk
        rw [List.drop_eq_getElem_cons c2] at t2
        have hci : l[i] = l.getD i default := by simp [List.getD_eq_getElem?_getD, hi]
        rw [hci] at t2
        have hx : FXR P N (l.getD i default) (ee i) h1 (fun r h2 => RunL P N Q (l.drop (i + 1)) (putR (l.getD i default).d r (ee i)) h2) := t2
        refine fun ops i' o ho hcc m w a K QQ hr he hk => (hx.lkE hee) ops i' o ho hcc m w a K QQ hr he fun m' w' a' r h2 hR g1 g2 g3 => hk m' w' a' r h2 (fun _ => ?_) g1 g2 g3
        refine .inr ⟨i + 1, _, by omega, by omega, fun j => ?_, lk_putR_congr fun s => (hee s).symm, hR⟩
        show (if j = i then true else D j) = _
        by_cases hj : j = i
        · simp [hj]
        · rw [if_neg hj]
          by_cases hj2 : j < i
          · rw [hall j hj2]; simp; omega
          · cases hDj : D j with
            | true => have := i2 j hDj; omega
            | false => simp; omega
      · have hr : Reach es (i - 1) i := anc i (i - 1) ((c5 i hi).resolve_left (fun hh => hh hgt))
        have := hdone hr hpre
        have := i2 _ this
        omega
    · have hik : i = k := by
        rcases Nat.lt_trichotomy i k with hlt | rfl | hgt
        · rw [k3 i] at hDi; simp [hlt] at hDi
        · rfl
        · have hr : Reach es (i - 1) i := anc i (i - 1) ((c5 i hi).resolve_left (fun hh => hh (by omega)))
          have := hdone hr hpre
          rw [k3] at this
          simp at this; omega
      subst hik
      rw [List.drop_eq_getElem_cons hi] at k5
      have hci : l[i] = l.getD i default := by simp [List.getD_eq_getElem?_getD, hi]
      rw [hci] at k5
      have hx : FXR P N (l.getD i default) e3 h1 (fun r h2 => RunL P N Q (l.drop (i + 1)) (putR (l.getD i default).d r e3) h2) := k5
      refine fun ops i' o ho hcc m w a K QQ hr he hk => (hx.lkE fun s => (k4 s).symm) ops i' o ho hcc m w a K QQ hr he fun m' w' a' r h2 hR g1 g2 g3 => hk m' w' a' r h2 (fun _ => ?_) g1 g2 g3
      refine .inr ⟨i + 1, _, by omega, by omega, fun j => ?_, lk_putR_congr k4, hR⟩
      show (if j = i then true else D j) = _
      by_cases hj : j = i
      · simp [hj]
      · rw [if_neg hj, k3 j]
        simp only [decide_eq_decide]
        omega
  · intro D e1 h1 hall hI
    rcases hI with ⟨i1, _⟩ | ⟨k, e3, k1, k2, k3, k4, k5⟩
    · rw [hall c c2] at i1; cases i1
    · have hk : k = l.length := by
        by_cases hkl : k < l.length
        · have := hall k hkl
          rw [k3 k] at this
          simp at this
        · omega
      subst hk
      rw [List.drop_length] at k5
      exact ⟨e3, k4, k5⟩
/-- One operation of a region, by what holds behind it. -/
theorem WL.fxr {c : CI} {R : Option AV → AHeap → Prop} (hx : FXR P N c e h R) (k : ∀ r h', R r h' → WL P N l Q (putR c.d r e) h') : WL P N (c :: l) Q e h := ⟨by
  intro ops idx hlt hl m w a hr he
  cases idx with
  | nil => simp at hl
  | cons i idx =>
    simp only [List.map_cons, List.cons.injEq] at hl
    obtain ⟨hc, hl⟩ := hl
    have hilt := hlt i (by simp)
    have ho : ops[i]? = some ops[i] := Array.getElem?_eq_getElem hilt
    have hget : ops.getD i default = ops[i] := by simp [hilt]
    rw [hget] at hc
    rw [wpOps_cons]
    refine hx ops i _ ho hc m w a _ _ hr he fun m' w' a' r h' hR h1 h2 h3 => ?_
    exact wpOps_mono (fun _ _ _ hp => PA.from h3 hp) idx _ _ ((k r h' hR).out ops idx (fun j hj => hlt j (by simp [hj])) hl m' w' a' h1 h2)⟩
theorem FXR.callv {d : Option Nat} {f : Nat} {x : Opd} {xs : List Opd} {g : Option (Nat × Bool)} {us vs ts : List AV} {R : AV → AHeap → Prop} (hx : ev e x = some (.func (.func f) us ts)) (hv : evL e xs = some vs) (hg : met e g) (hb : bodied P f = true) (hac : AC P f (us ++ vs ++ ts) h R) : FXR P N ⟨d, .callv x xs, g⟩ e h (fun r h' => ∃ r1, r = some r1 ∧ R r1 h') := by
  intro ops i o ho hc m w a K QQ hr he hk
  rcases compI_ok hc with ⟨hb1, hb2⟩ | ⟨hd, hdst, hcomp, hgd⟩
  · simp at hb1
  · obtain ⟨w1, w2⟩ := wanted_of he hgd
    have hw : Region.wanted o (yielded ops a.tmps) = true := by
      cases g with
      | none => exact w1 rfl
      | some sb =>
        obtain ⟨s, b⟩ := sb
        rw [w2 s b b rfl hg]; simp
    simp only [wpOp, ho]
    rw [if_pos hw]
    left
    have hco := hcomp rfl
    obtain ⟨c, y, hop, hcal, hy, hxs⟩ := compile_callv hco
    obtain ⟨hl1, hl2⟩ := he.evalL hxs hv
    have hfv := he.eval hy hx
    generalize hcx : a.eval (.tmp y) = cx at hfv
    cases hfv with
    | func _ _ _ cs ds q1 q2 q3 q4 =>
      have hrun : (execOp a.eval o).run P w = .ok (.enter f (cs ++ c.args.map a.eval ++ ds)) w := by
        simp [execOp, hop, resolve, hcal, hcx, Deferred.ofValue, invoke, run_callFunc hb]
      refine call_wp hrun hr (by simp [q1, q2, hl1]) (fun j v hj => ?_) hac fun v w' m' r1 h1 g1 g2 g3 g4 => ?_
      · rw [List.append_assoc] at hj
        simp only [Array.getD_eq_getD_getElem?]
        by_cases j1 : j < us.length
        · rw [List.getElem?_append_left j1] at hj
          have := q3 j v hj
          rw [Array.append_assoc, Array.getElem?_append_left (by omega)]
          simpa [Array.getD_eq_getD_getElem?] using this
        · rw [List.getElem?_append_right (by omega)] at hj
          rw [Array.append_assoc, Array.getElem?_append_right (by omega), ← q1]
          by_cases j2 : j - us.length < vs.length
          · rw [List.getElem?_append_left j2] at hj
            have := hl2 _ v hj
            rw [Array.getElem?_append_left (by simp at hl1 ⊢; omega)]
            simpa [List.getD_eq_getElem?_getD] using this
          · rw [List.getElem?_append_right (by omega)] at hj
            have := q4 _ v hj
            have hl1' : vs.length = c.args.size := by simpa using hl1
            rw [Array.getElem?_append_right (by simp; omega)]
            simpa [Array.getD_eq_getD_getElem?, hl1'] using this
      · refine hk m' w' _ (some r1) h1 ⟨r1, rfl, g4⟩ g1 ?_ g3
        have hd' : d = o.dst := hd
        show ER N m' h1 w' (putR d (some r1) e) _
        rw [hd']
        exact (he.step g3).putR hdst g2
/-- A call of an interface value's method, by its contract. -/
theorem FXR.inv {d : Option Nat} {f t : Nat} {s : String} {x : Opd} {xs : List Opd} {g : Option (Nat × Bool)} {v : AV} {vs : List AV} {R : AV → AHeap → Prop} (hx : ev e x = some (.iface t v)) (hv : evL e xs = some vs) (hg : met e g) (hm : methF P t s = some f) (hb : bodied P f = true) (hac : AC P f (v :: vs) h R) : FXR P N ⟨d, .raw (.inv s x xs), g⟩ e h (fun r h' => ∃ r1, r = some r1 ∧ R r1 h') := by
  intro ops i o ho hc m w a K QQ hr he hk
  have hraw := compI_raw hc rfl
  rcases compI_ok hc with ⟨hb1, hb2⟩ | ⟨hd, hdst, _, hgd⟩
  · cases hb1
  · obtain ⟨w1, w2⟩ := wanted_of he hgd
    have hw : Region.wanted o (yielded ops a.tmps) = true := by
      cases g with
      | none => exact w1 rfl
      | some sb =>
        obtain ⟨s2, b⟩ := sb
        rw [w2 s2 b b rfl hg]; simp
    simp only [wpOp, ho]
    rw [if_pos hw]
    left
    obtain ⟨c, y, hop, hcal, hy, hxs⟩ := cx_inv hraw
    obtain ⟨hl1, hl2⟩ := he.evalL hxs hv
    have hfv := he.eval hy hx
    generalize hcx : a.eval y = cx at hfv
    cases hfv with
    | iface _ _ cv q =>
      have hx1 : ∀ (u : Value) (X : Array Value), (#[u] ++ X)[0]? = some u := fun u X => by rw [Array.getElem?_append_left (by simp)]; rfl
      have hx2 : ∀ (u : Value) (X : Array Value), (#[u] ++ X).extract 1 (#[u] ++ X).size = X := fun u X => by
        apply Array.ext'
        simp
      have hx3 : P.types.size + Made.depth = (P.types.size + 99) + 1 := rfl
      have hrun : (execOp a.eval o).run P w = .ok (.enter f (#[cv] ++ c.args.map a.eval)) w := by
        simp only [execOp, hop, resolve, hcal, hcx, Sem.run_bind, Sem.run_pure, Result.andThen_ok, invoke, hx1, hx2, callMethod, run_program, hx3, run_method hm, run_callFunc hb]
      refine call_wp hrun hr (by have : vs.length = c.args.size := by simpa using hl1
                                 simp; omega) (fun j v2 hj => ?_) hac fun v2 w' m' r1 h1 g1 g2 g3 g4 => ?_
      · simp only [Array.getD_eq_getD_getElem?]
        rcases j with _ | j
        · cases hj
          rw [hx1]
          exact q
        · have := hl2 j v2 (by simpa using hj)
          rw [Array.getElem?_append_right (by simp)]
          simpa [List.getD_eq_getElem?_getD] using this
      · refine hk m' w' _ (some r1) h1 ⟨r1, rfl, g4⟩ g1 ?_ g3
        have hd' : d = o.dst := hd
        show ER N m' h1 w' (putR d (some r1) e) _
        rw [hd']
        exact (he.step g3).putR hdst g2
/-- A contract, of a heap that is told otherwise. -/
theorem AC.cvt {f : Nat} {vs : List AV} {R : AV → AHeap → Prop} (hc : Cvt [] h [] h') (hac : AC P f vs h' R) : AC P f vs h R := fun m w cargs hr hl hv => by
  obtain ⟨m1, r1, _, s1⟩ := hc 0 m w ⟨#[], []⟩ hr ⟨rfl, rfl, fun i v hi => by simp [lk_nil] at hi⟩
  refine (hac m1 w cargs r1 hl fun i v hi => (hv i v hi).step s1).mono fun ex w' ⟨v, m', r, h2, e1, g1, g2, g3, hR⟩ => ⟨v, m', r, h2, e1, g1, g2, s1.trans g3, hR⟩
end
end Go.Abs


namespace Go.Proofs.YtafkhpjnihnfpaaGreat
open Go Go.Abs

/-- With leaves that are not written any more. -/
def CaN.frz (n : CaN) : CaN := { n with nE := n.c }
theorem Kp.cvt {W : Nat → Prop} {h h' : AHeap} (h1 : h'.next = h.next) (h2 : h'.gap = h.gap) (h3 : ∀ id, ¬ W id → h'.get id = h.get id) : Kp W h h' :=
  ⟨by omega, fun id hu => by unfold AHeap.used at hu ⊢; rw [h1, h2]; exact hu, fun id _ hw => h3 id hw⟩
theorem CaG.frz {md : Bool} {h : AHeap} {n : CaN} {x : CaS} (hg : CaG md h n x) : ∃ h', Cvt [] h [] h' ∧ CaG md h' n.frz x ∧ BoxAt h' n.c (.mem 6 [[.ptr (n.w.a + 10) 0 0, .ptr n.k 0 0, .imm 8 (x.now.map encL), .imm 8 (x.was.map encL), .ptr n.a 0 0, .bool x.bad]]) ∧ Kp n.own h h' := by
  obtain ⟨g1, g2, ⟨v, g3, g4⟩, g5, g6, g8, g7⟩ := hg
  obtain ⟨d1, d2, d3, d4, d5, d6, d7, d8, d9⟩ := g7
  have hown : ∀ id, n.frz.own id → n.own id := fun id hi => by
    rcases hi with rfl | rfl | rfl | rfl | rfl | rfl
    · exact .inl rfl
    · exact .inr (.inl rfl)
    · exact .inr (.inr (.inl rfl))
    · exact .inr (.inr (.inr (.inl rfl)))
    · exact .inl rfl
    · exact .inr (.inr (.inr (.inr (.inr rfl))))
  have hsc : n.sE ≠ n.c := by rcases d8 with h | h <;> omega
  rcases g3 with rfl | ⟨rfl, hE⟩
  · exact ⟨h, Cvt.refl, ⟨g1, g2, ⟨_, .inl rfl, g4⟩, g5, fun id hi => g6 id (hown id hi), fun id hi => g8 id (hown id hi), ⟨d1, d2, d3, d4, d5, d6, .inl rfl, d8, fun e => hsc e.symm⟩⟩, g4, Kp.refl⟩
  · have hcE : n.c ≠ n.nE := fun e => by
      have q1 := g4.g
      have q2 := hE.g
      rw [e, q2] at q1
      simp at q1
    have hc := Cvt.frzM (e := []) g4.g (i := 0) (j := 2) rfl rfl hE.g (by simp) hcE
    have kp : Kp (fun id => id = n.c ∨ id = n.nE) h ((h.set n.nE none).set n.c (some (.mem 6 [[.ptr (n.w.a + 10) 0 0, .ptr n.k 0 0, .imm 8 (x.now.map encL), .imm 8 (x.was.map encL), .ptr n.a 0 0, .bool x.bad]]))) :=
      Kp.cvt rfl rfl fun id hi => by
        rw [not_or] at hi
        exact get_set_neE hi.1 (get_set_neE hi.2 rfl)
    have hkE : n.k ≠ n.nE := by rcases d7 with h | h <;> omega
    have haE : n.a ≠ n.nE := by rcases d7 with h | h <;> omega
    have hqE : n.q ≠ n.nE := by rcases d7 with h | h <;> omega
    have hB : BoxAt ((h.set n.nE none).set n.c (some (.mem 6 [[.ptr (n.w.a + 10) 0 0, .ptr n.k 0 0, .imm 8 (x.now.map encL), .imm 8 (x.was.map encL), .ptr n.a 0 0, .bool x.bad]]))) n.c (.mem 6 [[.ptr (n.w.a + 10) 0 0, .ptr n.k 0 0, .imm 8 (x.now.map encL), .imm 8 (x.was.map encL), .ptr n.a 0 0, .bool x.bad]]) :=
      ⟨kp.us _ g4.u, get_set_same⟩
    refine ⟨_, hc, ⟨g1.kp kp fun id hi hh => ?_, g2.kp kp (by omega), ⟨_, .inl rfl, hB⟩, g5.kp kp (by omega) (by omega) (by omega), fun id hi => g6 id (hown id hi), fun id hi => Nat.lt_of_lt_of_le (g8 id (hown id hi)) kp.next, ⟨d1, d2, d3, d4, d5, d6, .inl rfl, d8, fun e => hsc e.symm⟩⟩, hB, kp.mono fun id _ hi => hi.elim .inl fun e => .inr (.inr (.inr (.inr (.inl e))))⟩
    rcases hh with rfl | rfl
    · exact g6 _ (.inl rfl) hi
    · exact g6 _ (.inr (.inr (.inr (.inr (.inl rfl))))) hi
def CaS.comE (md : Bool) (x : CaS) : Int := (x.s.doC md x.boot x.j x.now).1
def CaS.com (md : Bool) (x : CaS) : CaS := { x with s := (x.s.doC md x.boot x.j x.now).2.1, j := (x.s.doC md x.boot x.j x.now).2.2, was := if x.comE md = 0 then x.now else x.was }
/-- What a cache is at all times. -/
structure CaOk (md : Bool) (x : CaS) (k : Nat) : Prop where
  st : WSt md x.s k
  b : 0 ≤ x.boot ∧ x.boot < 4294967296
  j : x.j ≤ 100
  l : (x.now.length : Int) = x.s.n
  w : ∀ y ∈ x.now, y.Wf
  ok : lvOk x.now 0 = true
set_option maxHeartbeats 4000000 in
theorem cache_commit_ac {md : Bool} {h : AHeap} {n : CaN} {x : CaS} {k : Nat} (hg : CaG md h n x) (hx : CaOk md x k) (hk : k ≤ 8000) :
    AC Tryz.prog 125 [.ptr n.c 0 0] h (fun r h' => r = .int .i64 (x.comE md) ∧ CaG md h' n.frz (x.com md) ∧ Kp (fun id => n.w.own md id ∨ n.own id) h h') := by
  obtain ⟨h0, hcv, g0, b0, k0⟩ := hg.frz
  refine AC.cvt hcv ?_
  have kO : ∀ id, n.frz.own id → n.own id := fun id hi => by
    rcases hi with rfl | rfl | rfl | rfl | rfl | rfl
    · exact .inl rfl
    · exact .inr (.inl rfl)
    · exact .inr (.inr (.inl rfl))
    · exact .inr (.inr (.inr (.inl rfl)))
    · exact .inl rfl
    · exact .inr (.inr (.inr (.inr (.inr rfl))))
  have hnm := hg.nm
  have k0' : Kp (fun id => n.w.own md id ∨ n.own id) h h0 := k0.mono fun _ _ hi => .inr hi
  clear hcv k0 hg
  have hgg := isG_cases hx.st.fit.g
  have hll := hx.l
  refine AC.introW is_cache_Cache_commit (by simp) ?_
  unfold c_cache_Cache_commit
  have hc := b0.g
  (repeat first | refine WL.go ?_ | refine WW.seq ?_ | refine WW.reg ?_ | refine WL.nil ?_ | refine WW.skip ?_ | refine WW.block ?_ | refine WW.exit ?_ | refine WW.condT rfl ?_ | refine WW.condF rfl ?_ | refine WL.gox ?_ | refine thenN ?_ | refine blkN ?_)
  refine WW.dregC 12 (by decide +kernel) ?_
  (repeat first | refine PW.go ?_ | refine PW.nil ?_)
  refine RunL.call rfl (by first | exact True.intro | exact rfl) gSL (commit_Do_ac g0.w hx.st hk g0.mr hx.b hx.j (g0.nm _ (.inr (.inl rfl))) x.now hx.l hx.w hx.ok) ?_
  rintro _ h1 ⟨rfl, g1, b1, k1⟩
  obtain ⟨d1, d2, d3, d4, d5, d6, d7, d8, d9⟩ := g0.dj
  have hno : ∀ id, n.own id → id ≠ n.k → ¬ (n.frz.w.own md id ∨ id = n.frz.k) := fun id hi hk hh => by
    rcases hh with hh | hh
    · exact hnm id hi (.inl (WN.own_all hh))
    · exact hk hh
  have c1 := b0.kp k1 (hno _ (.inl rfl) d1)
  have hsk : n.sE ≠ n.k := by rcases d8 with h | h <;> dsimp only [CaN.frz] at h d5 <;> omega
  have a1 := g0.ag.kp k1 (hno _ (.inr (.inr (.inl rfl))) (fun e => d4 e.symm)) (hno _ (.inr (.inr (.inr (.inl rfl)))) (fun e => d5 e.symm)) (hno _ (.inr (.inr (.inr (.inr (.inr rfl))))) hsk)
  have k2 := k0'.trans (k1.mono fun id _ hh => hh.elim .inl fun e => .inr (.inr (.inl e)))
  have hc1 := c1.g
  have hl1 : ∀ id, n.frz.own id → id < h1.next := fun id hi => Nat.lt_of_lt_of_le (g0.lt id hi) k1.next
  clear b0 k1 k0'
  (repeat first | refine RunL.go ?_ | refine RunL.endL ?_ | refine thenN ?_ | refine blkN ?_)
  cases hz : decide ((x.s.doC md x.boot x.j x.now).1 = 0) with
  | true =>
    have h0 : x.comE md = 0 := of_decide_eq_true hz
    rw [show (x.s.doC md x.boot x.j x.now).1 = 0 from h0]
    (refine go ?_)
    refine WL.call rfl (by first | exact True.intro | exact rfl) gSL (slices_CloneL_ae x.now (by omega) _) ?_
    (refine go ?_)
    have kp : Kp (fun id => id = n.c) h1 (h1.set n.c (some (.mem 6 [[.ptr (n.w.a + 10) 0 0, .ptr n.k 0 0, .imm 8 (x.now.map encL), .imm 8 (x.now.map encL), .ptr n.a 0 0, .bool x.bad]]))) := Kp.cvt rfl rfl fun id hi => get_set_neE hi rfl
    refine WW.ret ⟨.inl rfl, _, gRES, by rw [h0]; rfl, ⟨g1.kp kp fun id hi e => hnm n.c (.inl rfl) (e ▸ hi), b1.kp kp (fun e => d1 e.symm), ⟨_, .inl rfl, kp.us _ c1.u, ?_⟩, a1.kp kp (fun e => d2 e.symm) (fun e => d3 e.symm) (fun e => by rcases d8 with h | h <;> dsimp only [CaN.frz] at * <;> omega), g0.nm, fun id hi => Nat.lt_of_lt_of_le (hl1 id hi) kp.next, g0.dj⟩, k2.trans (kp.mono fun id _ e => .inr (.inl e))⟩
    have e1 : (x.com md).was = x.now := by simp only [CaS.com, h0, if_true]
    rw [e1]
    exact get_set_same
  | false =>
    have h0 : ¬ x.comE md = 0 := of_decide_eq_false hz
    have h0' : ¬ (x.s.doC md x.boot x.j x.now).1 = 0 := h0
    (refine go ?_)
    (refine WW.ifB rfl (fun hz1 => ?_) (fun hz1 => ?_))
    · exact absurd hz1 h0'
    (refine go ?_)
    refine WW.ret ⟨.inl rfl, _, gRES, rfl, ⟨g1, b1, ⟨_, .inl rfl, ?_⟩, a1, g0.nm, hl1, g0.dj⟩, k2⟩
    have e1 : (x.com md).was = x.was := by simp only [CaS.com, h0, if_false]
    rw [e1]
    exact c1
end Go.Proofs.YtafkhpjnihnfpaaGreat


namespace Go.Proofs.YtafkhpjnihnfpaaGreat
open Go Go.Abs

theorem model_Is3_ae (k : Int) (hk : k = 3 ∨ k = 5) (lba : Int) (u : AV) (hu : u = .nils ∨ ∃ c, u = .imm 1 c) (h : AHeap) : AE Tryz.prog 86 [.agg [.int .i64 k, .int .i64 lba, u]] h (.bool true) h := by
  rcases hk with rfl | rfl <;> rcases hu with rfl | ⟨c, rfl⟩
  all_goals
    refine AE.pureW is_model_Is (by simp) ?_
    unfold c_model_Is
    (refine go ?_)
    refine WW.ret (PureQ.finD ?_)
    exact fz_b rfl
/-- What a call leaves: names that were there, or new ones. -/
structure CaMv (md : Bool) (h : AHeap) (n n' : CaN) : Prop where
  o : ∀ id, n'.own id → n.own id ∨ h.next ≤ id
  w : ∀ id, n'.w.nm md id → n.w.nm md id ∨ h.next ≤ id
  c : n'.c = n.c
  a : n'.w.a = n.w.a
def CaR (md : Bool) (h : AHeap) (n : CaN) (Post : Int → AV → CaS → Prop) (r : AV) (h' : AHeap) : Prop :=
  ∃ n' x' e v, r = .agg [.int .i64 e, v] ∧ (v = .nils ∨ ∃ c, v = .imm 1 c) ∧ Post e v x' ∧ CaG md h' n' x' ∧ CaMv md h n n' ∧ Kp (fun id => n.w.own md id ∨ n.own id) h h'
theorem CaMv.refl {md : Bool} {h : AHeap} {n : CaN} : CaMv md h n n := ⟨fun _ => .inl, fun _ => .inl, rfl, rfl⟩
theorem CaMv.frz {md : Bool} {h : AHeap} {n : CaN} : CaMv md h n n.frz := ⟨fun id hi => by
  rcases hi with rfl | rfl | rfl | rfl | rfl | rfl
  · exact .inl (.inl rfl)
  · exact .inl (.inr (.inl rfl))
  · exact .inl (.inr (.inr (.inl rfl)))
  · exact .inl (.inr (.inr (.inr (.inl rfl))))
  · exact .inl (.inl rfl)
  · exact .inl (.inr (.inr (.inr (.inr (.inr rfl))))), fun _ => .inl, rfl, rfl⟩
theorem CaMv.le {md : Bool} {h h2 : AHeap} {n n' : CaN} (hm : CaMv md h2 n n') (hx : h.next ≤ h2.next) : CaMv md h n n' := ⟨fun id hi => (hm.o id hi).imp (fun q => q) (Nat.le_trans hx), fun id hi => (hm.w id hi).imp (fun q => q) (Nat.le_trans hx), hm.c, hm.a⟩
def methC (k : Int) : Nat := if k = 1 then 87 else if k = 2 then 88 else if k = 3 then 89 else if k = 4 then 90 else 91
def tabC : List (AV × AV) := [(.int .i64 1, .func (.func 87) [] []), (.int .i64 2, .func (.func 88) [] []), (.int .i64 3, .func (.func 89) [] []), (.int .i64 4, .func (.func 90) [] []), (.int .i64 5, .func (.func 91) [] [])]
theorem tabC_find {k : Int} (hk : k = 1 ∨ k = 2 ∨ k = 3 ∨ k = 4 ∨ k = 5) : ∃ ti, findA (.int .i64 k) tabC 0 = some (some (ti, .func (.func (methC k)) [] [])) := by
  rcases hk with rfl | rfl | rfl | rfl | rfl <;> exact ⟨_, rfl⟩
theorem methC_body {k : Int} (hk : k = 1 ∨ k = 2 ∨ k = 3 ∨ k = 4 ∨ k = 5) : bodied Tryz.prog (methC k) = true := by
  rcases hk with rfl | rfl | rfl | rfl | rfl <;> kernel_rfl
set_option maxHeartbeats 4000000 in
theorem cache_Do_ac {md : Bool} {h : AHeap} {n : CaN} {x : CaS} {Post : Int → AV → CaS → Prop} (hg : CaG md h n x) (hgo : x.s.pw.gone = false) (hb : x.bad = false) (k lba : Int) (u : AV) (hu : u = .nils ∨ ∃ c, u = .imm 1 c) (hk : k = 1 ∨ k = 2 ∨ k = 3 ∨ k = 4 ∨ k = 5)
    (hIs : ∀ h2, AE Tryz.prog 86 [.agg [.int .i64 k, .int .i64 lba, u]] h2 (.bool true) h2)
    (hac : ∀ h2, Kp (fun _ => False) h h2 → CaG md h2 n x → AC Tryz.prog (methC k) [.ptr n.c 0 0, .agg [.int .i64 k, .int .i64 lba, u]] h2 (CaR md h2 n Post)) :
    AC Tryz.prog 57 [.ptr n.c 0 0, .agg [.int .i64 k, .int .i64 lba, u]] h (CaR md h n Post) := by
  refine AC.introW is_cache_Cache_Do (by simp) ?_
  unfold c_cache_Cache_Do
  have hgg := hg
  obtain ⟨g1, g2, ⟨v, g3, g4⟩, g5, g6, g8, g7⟩ := hg
  have hc := g4.g
  rw [hb] at hc
  have hob := g1.w.w
  simp only [wRow] at hob
  have husc : u.scalar = true := by rcases hu with rfl | ⟨c, rfl⟩ <;> rfl
  have hna : n.w.a + 11 ≤ h.next := g1.w.nx
  have hnc := g8 n.c (.inl rfl)
  have hpw : h.get n.w.p = some (.mem 4 [x.s.pw.row]) := g1.w.sd.pw
  have hpl : n.w.p < h.next := by have := g1.w.op; omega
  have hnil : ∀ h2 : AHeap, Kp (fun _ => False) h h2 → CaG md h2 n x := fun h2 k2 => hgg.new k2
  rcases hu with rfl | ⟨c, rfl⟩
  all_goals
    (refine go ?_)
    refine WL.call rfl (by first | exact True.intro | exact rfl) gSL (power_On_ae (p := n.w.p) (s := x.s.pw) gH) ?_
    rw [hgo]
    (refine go ?_)
    refine WL.call rfl (by first | exact True.intro | exact rfl) gSL (hIs _) ?_
    (refine go ?_)
    iterate 5 refine WL.fx0 (FX.mput (r := none) rfl rfl rfl gH trivial rfl (by first | exact True.intro | exact rfl)) ?_
    (refine go ?_)
    obtain ⟨ti, htab⟩ := tabC_find hk
    refine WL.fx1 (FX.look (es := tabC) rfl rfl gH trivial htab rfl (by first | exact True.intro | exact rfl)) ?_
    simp only [lookR, Option.map_some, Option.getD_some]
    clear htab
    (repeat first | refine WW.seq ?_ | refine WW.reg ?_ | refine WL.nil ?_ | refine WW.skip ?_ | refine WW.block ?_ | refine thenN ?_ | refine blkN ?_); iterate 2 (refine WL.go ?_)
    refine WL.live fun hl => ?_
    refine WL.cut (fun e2 h2 => subE [(4, some (.ptr (h.next + 1) 0 0)), (37, some (.func (.func (methC k)) [] [])), (38, some (.ptr n.c 0 0)), (39, some (.agg [.int .i64 k, .int .i64 lba, _]))] e2 ∧ Kp (fun _ => False) h h2 ∧ BoxAt h2 (h.next + 1) (.mem 2 [[.int .i64 0, .nils]])) ⟨gSUB, (by repeat first | exact Kp.refl | assumption | with_reducible refine Kp.put ?_ (by omega) _ | with_reducible refine Kp.setN ?_ (by omega) _ | with_reducible refine Kp.keep ?_ _ | with_reducible refine Kp.setW ?_ (by rfl) _), hl _ _ gH, gH⟩ ?_
    clear hl hIs
    rintro e2 h2 ⟨l1, k2, b2⟩
    refine WL.cvt (Cvt.sub l1) ?_
    have hx2 := b2.u.1
    refine WL.fxr (FXR.callv rfl rfl (by first | exact True.intro | exact rfl) (methC_body hk) (hac h2 k2 (hnil _ k2))) ?_
    rintro _ h5 ⟨_, rfl, n', x', e', v', rfl, hsc, hP, g', mv, k'⟩
    have b5 := b2.kp k' (fun hh => by
      rcases hh with hh | hh
      · have := (g1.us _ (.inl (WN.own_all hh))).1; omega
      · have := g8 _ hh; omega)
    have hb5 := b5.g
    have hx5 := k'.next
    have kt : Kp (fun id => id = h.next + 1) h5 (h5.set (h.next + 1) (some (.mem 2 [[.int .i64 e', v']]))) := Kp.cvt rfl rfl fun id hi => get_set_neE hi rfl
    have hfin : CaR md h n Post (.agg [.int .i64 e', v']) (h5.set (h.next + 1) (some (.mem 2 [[.int .i64 e', v']]))) := by
      refine ⟨n', x', e', v', rfl, hsc, hP, g'.kp kt (fun id hi hh => ?_) (fun id hi hh => ?_), mv.le k2.next, ?_⟩
      · rcases mv.w id hi with h6 | h6
        · have := (g1.us _ h6).1; omega
        · omega
      · rcases mv.o id hi with h6 | h6
        · have := g8 _ h6; omega
        · omega
      · exact ((k2.mono fun _ _ h => h.elim).trans k').trans2 kt fun id hi => .inr (by omega)
    rcases hsc with rfl | ⟨c2, rfl⟩
    · (refine go ?_)
      exact WW.ret ⟨.inl rfl, [.agg [.int .i64 e', _]], gRES, hfin⟩
    · (refine go ?_)
      exact WW.ret ⟨.inl rfl, [.agg [.int .i64 e', _]], gRES, hfin⟩
end Go.Proofs.YtafkhpjnihnfpaaGreat


namespace Go.Proofs.YtafkhpjnihnfpaaGreat
open Go Go.Abs

set_option maxHeartbeats 4000000 in
theorem cache_OpenE_ac {md : Bool} {h : AHeap} {n : WN} {s : WS} {k : Nat} (hg : WG md h n s) (hs : WSt md s k) (hk : k ≤ 7000) (hf : s.pw.Free) (he : s.bootS.loadE md ≠ 0) :
    AC Tryz.prog 26 [.ptr (n.a + 10) 0 0] h (fun r h' => r = .tup [.nilp, .int .i64 (s.bootS.loadE md)] ∧ WG md h' n (s.bootS.loadS md) ∧ Kp (n.own md) h h') := by
  refine AC.introW is_cache_Open (by simp) ?_
  unfold c_cache_Open
  have hob := hg.w.w
  simp only [wRow] at hob
  (refine go ?_)
  refine WL.call rfl (by first | exact True.intro | exact rfl) gSL (power_On_ae hg.w.sd.pw) ?_
  rw [show s.pw.gone = false from hf.g]
  (refine go ?_)
  refine WL.call rfl (by first | exact True.intro | exact rfl) gSL (boot_ae hg hs (by omega)) ?_
  have hcan := hf.can
  refine WL.named (fun h2 => WG md h2 n s.bootS ∧ Kp (n.own md) h h2) ⟨hg.boot, kp_ct n _ _⟩ ?_
  rintro h2 ⟨g2, k2⟩
  have hs2 := hs.boot
  rw [hcan]
  clear hob
  (refine go ?_)
  refine WL.callA rfl (by first | exact True.intro | exact rfl) gSL (commit_Load_ac g2 hs2 (by omega)) ?_
  rintro _ h3 ⟨rfl, g3, k3⟩
  (refine go ?_)
  (refine WW.ifB rfl (fun hz1 => ?_) (fun hz1 => ?_))
  · (refine go ?_)
    exact WW.ret ⟨.inl rfl, _, gRES, rfl, g3, k2.trans k3⟩
  · exact absurd hz1 he
/-- A cache of loaded leaves. -/
def caLoad (md : Bool) (s : WS) : CaS := ⟨s.bootS.loadS md, s.ct.boots + 1, 0, s.bootS.loadL md, s.bootS.loadL md, ag0, false⟩
set_option maxHeartbeats 4000000 in
theorem cache_OpenL_ac {md : Bool} {h : AHeap} {n : WN} {s : WS} {k : Nat} (hg : WG md h n s) (hs : WSt md s k) (hk : k ≤ 7000) (hf : s.pw.Free) (he : s.bootS.loadE md = 0) (hep : s.ks.epochs.length < 2) (hz : ∀ x ∈ s.bootS.loadL md, x.k = 0) (hll : (s.bootS.loadL md).length ≤ 16) :
    AC Tryz.prog 26 [.ptr (n.a + 10) 0 0] h
      (fun r h' => ∃ (N : CaN), r = .tup [.ptr N.c 0 0, .int .i64 0] ∧ N.w = n ∧ CaG md h' N (caLoad md s) ∧ (∀ id, N.own id → h.next ≤ id) ∧ Kp (n.own md) h h') := by
  refine AC.introW is_cache_Open (by simp) ?_
  unfold c_cache_Open
  have hob := hg.w.w
  simp only [wRow] at hob
  have hna : n.a + 11 ≤ h.next := hg.w.nx
  have hlt : ∀ id, n.nm md id → id < h.next := fun id hi => (hg.us id hi).1
  obtain ⟨ct1, ct2, ct3⟩ := hs.ct
  (refine go ?_)
  refine WL.call rfl (by first | exact True.intro | exact rfl) gSL (power_On_ae hg.w.sd.pw) ?_
  rw [show s.pw.gone = false from hf.g]
  (refine go ?_)
  refine WL.call rfl (by first | exact True.intro | exact rfl) gSL (boot_ae hg hs (by omega)) ?_
  have hcan := hf.can
  have hbc := boot_ct hf
  refine WL.named (fun h2 => WG md h2 n s.bootS ∧ Kp (n.own md) h h2) ⟨hg.boot, kp_ct n _ _⟩ ?_
  rintro h2 ⟨g2, k2⟩
  have hx2 := k2.next
  have hs2 := hs.boot
  rw [hcan]
  clear hob
  (refine go ?_)
  refine WL.callA rfl (by first | exact True.intro | exact rfl) gSL (commit_Load_ac g2 hs2 (by omega)) ?_
  rintro _ h3 ⟨rfl, g3, k3⟩
  obtain ⟨q1, q2, q3, q4, q5, q6⟩ := loadS_sd md s.bootS
  rw [he]
  have hx3 := k3.next
  have hct := g3.w.ct
  rw [q4, hbc] at hct
  have hob := g3.w.w
  simp only [wRow] at hob
  have hks : (caLoad md s).s.ks.epochs.length < 2 := by show (s.bootS.loadS md).ks.epochs.length < 2; rw [q5]; exact hep
  generalize hcl : caLoad md s = X at *
  have hX : X = ⟨s.bootS.loadS md, s.ct.boots + 1, 0, s.bootS.loadL md, s.bootS.loadL md, ag0, false⟩ := hcl.symm
  clear hcl g2
  generalize s.bootS.loadL md = lv at *
  generalize s.bootS.loadS md = s3 at *
  (refine go ?_)
  refine WL.call rfl (by first | exact True.intro | exact rfl) gSL (count_Boots_ae (p := n.p) hct) ?_
  (refine go ?_)
  refine WL.call rfl (by first | exact True.intro | exact rfl) gSL (nonce_New_ae rfl (s.ct.boots + 1) (by omega)) ?_
  refine WL.named (fun h4 => WG md h4 n s3 ∧ Kp (fun _ => False) h3 h4 ∧ BoxAt h4 h3.next (mkO (s.ct.boots + 1) 0)) ⟨g3.new (by repeat first | exact Kp.refl | assumption | with_reducible refine Kp.put ?_ (by omega) _ | with_reducible refine Kp.setN ?_ (by omega) _ | with_reducible refine Kp.keep ?_ _ | with_reducible refine Kp.setW ?_ (by rfl) _), (by repeat first | exact Kp.refl | assumption | with_reducible refine Kp.put ?_ (by omega) _ | with_reducible refine Kp.setN ?_ (by omega) _ | with_reducible refine Kp.keep ?_ _ | with_reducible refine Kp.setW ?_ (by rfl) _), ⟨put_used_nm, gH⟩⟩ ?_
  have hmkN : ∀ id, n.nm md id → id < h3.next := fun id hi => by have := hlt id hi; omega
  rintro h4 ⟨g4, k4, b4⟩
  have hx4 := k4.next
  generalize h3.next = mk at *
  have hmk4 : mk < h4.next := b4.u.1
  clear hob g3 hct
  have hob := g4.w.w
  simp only [wRow] at hob
  (refine go ?_)
  refine WL.call rfl (by first | exact True.intro | exact rfl) gSL (slices_CloneL_ae lv (by omega) _) ?_
  (refine go ?_)
  refine WL.callA rfl (by first | exact True.intro | exact rfl) gSL (age_New_ac _) ?_
  rintro _ h5 ⟨a, q, rfl, ag5, haq, ha, hq, k5⟩
  have hx5 := k5.next
  have hap : a < h5.next := ag5.ob.u.1
  have hqp : q < h5.next := by obtain ⟨v, _, h6⟩ := ag5.qo; exact h6.u.1
  have g5 := g4.new k5
  have b5 := b4.kp k5 (fun h => h)
  clear hob
  (repeat first | refine WW.seq ?_ | refine WW.reg ?_ | refine WL.nil ?_ | refine WW.skip ?_ | refine WW.block ?_ | refine thenN ?_ | refine blkN ?_); iterate 3 (refine WL.go ?_)
  refine WL.named (fun h6 => CaG md h6 ⟨n, h5.next, mk, a, q, h5.next, q⟩ X ∧ Kp (fun _ => False) h5 h6) ⟨?_, (by repeat first | exact Kp.refl | assumption | with_reducible refine Kp.put ?_ (by omega) _ | with_reducible refine Kp.setN ?_ (by omega) _ | with_reducible refine Kp.keep ?_ _ | with_reducible refine Kp.setW ?_ (by rfl) _)⟩ ?_
  · rw [hX]
    refine ⟨g5.new (by repeat first | exact Kp.refl | assumption | with_reducible refine Kp.put ?_ (by omega) _ | with_reducible refine Kp.setN ?_ (by omega) _ | with_reducible refine Kp.keep ?_ _ | with_reducible refine Kp.setW ?_ (by rfl) _), b5.kp (W := fun _ => False) (by repeat first | exact Kp.refl | assumption | with_reducible refine Kp.put ?_ (by omega) _ | with_reducible refine Kp.setN ?_ (by omega) _ | with_reducible refine Kp.keep ?_ _ | with_reducible refine Kp.setW ?_ (by rfl) _) (fun h => h), ⟨_, .inl rfl, ⟨put_used_nm, gH⟩⟩, ag5.kp (W := fun _ => False) (by repeat first | exact Kp.refl | assumption | with_reducible refine Kp.put ?_ (by omega) _ | with_reducible refine Kp.setN ?_ (by omega) _ | with_reducible refine Kp.keep ?_ _ | with_reducible refine Kp.setW ?_ (by rfl) _) (fun h => h) (fun h => h) (fun h => h), ?_, ?_, ?_⟩
    · intro id hid hn
      have := hlt id hn
      rcases hid with rfl | rfl | rfl | rfl | rfl | rfl <;> (dsimp only at *; omega)
    · intro id hid
      have hL : h5.next < (h5.put h5.next (.mem 6 [[.ptr (n.a + 10) 0 0, .ptr mk 0 0, .imm 8 (lv.map encL), .imm 8 (lv.map encL), .ptr a 0 0, .bool false]])).next := (ltN gN (by omega))
      rcases hid with rfl | rfl | rfl | rfl | rfl | rfl <;> first | omega | (dsimp only; omega)
    · dsimp only
      refine ⟨by omega, by omega, by omega, by omega, by omega, haq, .inl rfl, .inl rfl, by omega⟩
  have hc5 : h.next ≤ h5.next := by omega
  generalize h5.next = c at *
  clear g5 b5 ag5 g4 b4
  rintro h6 ⟨g6, k6⟩
  have k7 : Kp (n.own md) h h6 := k2.trans (k3.trans ((k4.trans (k5.trans k6)).mono fun _ _ h => h.elim))
  clear k2 k3 k4 k5 k6
  (refine go ?_)
  refine WW.loopE (fun (i : Nat) => [(7, some (.ptr c 0 0)), (57, some (.imm 8 (lv.map encL))), (58, some (.int .i64 lv.length)), (59, some (.int .i64 i))])
    (fun i h' => Kp (fun _ => False) h6 h' ∧ i ≤ lv.length) (fun i => lv.length - i) 0 gSUB ⟨Kp.refl, Nat.zero_le _⟩ ?_
  rintro i h7 ⟨k8, hi⟩
  have g7 := g6.new k8
  have hx6 := k8.next
  (refine go ?_)
  (refine WW.ifB rfl (fun hz1 => ?_) (fun hz1 => ?_))
  · have hi2 : i < lv.length := by omega
    (refine go ?_)
    (refine WW.ifB rfl (fun hz2 => ?_) (fun hz2 => ?_))
    · exact absurd (hz _ (List.getElem_mem hi2)) hz2
    (refine go ?_)
    exact ⟨i + 1, gSUB, ⟨(by repeat first | exact Kp.refl | assumption | with_reducible refine Kp.put ?_ (by omega) _ | with_reducible refine Kp.setN ?_ (by omega) _ | with_reducible refine Kp.keep ?_ _ | with_reducible refine Kp.setW ?_ (by rfl) _), by omega⟩, by omega⟩
  · (refine go ?_)
    refine WL.call rfl (by first | exact True.intro | exact rfl) gSL (cache_finish_ae g7 hks) ?_
    (refine go ?_)
    exact WW.ret ⟨.inl rfl, _, gRES, ⟨n, c, mk, a, q, c, q⟩, rfl, rfl, g7, fun id hid => by rcases hid with rfl | rfl | rfl | rfl | rfl | rfl <;> first | omega | (dsimp only; omega), k7.trans (k8.mono fun _ _ h => h.elim)⟩
end Go.Proofs.YtafkhpjnihnfpaaGreat


namespace Go.Proofs.YtafkhpjnihnfpaaGreat
open Go Go.Abs

section
variable {md : Bool} {h h2 h5 : AHeap} {n : CaN} {x : CaS} {Post : Int → AV → CaS → Prop} {T : Nat} {e : Int} {v : AV}
theorem CaG.out (hg : CaG md h n x) {id : Nat} (hi : n.w.own md id ∨ n.own id) : id < h.next := hi.elim (fun hh => (hg.w.us _ (.inl (WN.own_all hh))).1) (hg.lt id)
theorem CaR.keep {r : AV} (hr : CaR md h2 n Post r h5) {id : Nat} {X : AObj} (hb : BoxAt h2 id X) (h1 : ¬ n.w.nm md id) (h3 : ¬ n.own id) : BoxAt h5 id X := by
  obtain ⟨n', x', e', v', _, _, _, _, _, k⟩ := hr
  exact hb.kp k fun hh => hh.elim (fun q => h1 (.inl (WN.own_all q))) h3
theorem CaR.cell {r : AV} (hg : CaG md h n x) (k2 : Kp (fun _ => False) h h2) (hT : h.next ≤ T) (hT2 : T < h2.next) (hr : CaR md h2 n Post r h5) (Y : AObj) : CaR md h n Post r (h5.set T (some Y)) := by
  obtain ⟨n', x', e', v', rfl, hsc, hP, g', mv, k'⟩ := hr
  have kt : Kp (fun id => id = T) h5 (h5.set T (some Y)) := Kp.cvt rfl rfl fun id hi => get_set_neE hi rfl
  refine ⟨n', x', e', v', rfl, hsc, hP, g'.kp kt (fun id hi hh => ?_) (fun id hi hh => ?_), mv.le k2.next, ?_⟩
  · rcases mv.w id hi with h6 | h6
    · have := (hg.w.us _ h6).1; omega
    · omega
  · rcases mv.o id hi with h6 | h6
    · have := hg.lt _ h6; omega
    · omega
  · exact ((k2.mono fun _ _ h => h.elim).trans k').trans2 kt fun id hi => .inr (by omega)
end
set_option maxHeartbeats 4000000 in
theorem box_call_ac {md : Bool} {h : AHeap} {n : CaN} {x : CaS} {Post : Int → AV → CaS → Prop} {b w : Nat} {sv : AV} (hg : CaG md h n x) (hbx : BoxAt h b (boxO w (.ptr n.c 0 0) sv)) (k lba : Int) (u : AV) (hu : u = .nils ∨ ∃ c, u = .imm 1 c)
    (hac : ∀ h2, Kp (fun _ => False) h h2 → CaG md h2 n x → AC Tryz.prog 57 [.ptr n.c 0 0, .agg [.int .i64 k, .int .i64 lba, u]] h2 (CaR md h2 n Post)) :
    AC Tryz.prog 27 [.ptr b 0 0, .agg [.int .i64 k, .int .i64 lba, u]] h (CaR md h n Post) := by
  refine AC.introW is_play_Box_call (by simp) ?_
  unfold c_play_Box_call
  have hb := hbx.g
  simp only [boxO] at hb
  have hbl := hbx.u.1
  have hcl := hg.lt n.c (.inl rfl)
  rcases hu with rfl | ⟨c, rfl⟩
  all_goals
    (repeat first | refine WL.go ?_ | refine WW.seq ?_ | refine WW.reg ?_ | refine WL.nil ?_ | refine WW.skip ?_ | refine WW.block ?_ | refine WW.exit ?_ | refine WW.condT rfl ?_ | refine WW.condF rfl ?_ | refine WL.gox ?_ | refine thenN ?_ | refine blkN ?_)
    refine WW.live fun hl => ?_
    refine WW.dregC 5 (by decide +kernel) ?_
    (repeat first | refine PW.go ?_ | refine PW.nil ?_)
    refine RunL.call rfl (by first | exact True.intro | exact rfl) gSL (hac _ (by repeat first | exact Kp.refl | assumption | with_reducible refine Kp.put ?_ (by omega) _ | with_reducible refine Kp.setN ?_ (by omega) _ | with_reducible refine Kp.keep ?_ _ | with_reducible refine Kp.setW ?_ (by rfl) _) (hg.new (by repeat first | exact Kp.refl | assumption | with_reducible refine Kp.put ?_ (by omega) _ | with_reducible refine Kp.setN ?_ (by omega) _ | with_reducible refine Kp.keep ?_ _ | with_reducible refine Kp.setW ?_ (by rfl) _))) ?_
    intro r h5 hr
    have b5 := (hr.keep ⟨hl (h.next + 1) (.mem 2 [[.int .i64 0, .nils]]) gH, gH⟩ (fun q => by have := (hg.w.us _ q).1; omega) (fun q => by have := hg.lt _ q; omega)).g
    have hR := fun Y => CaR.cell (T := h.next + 1) hg (by repeat first | exact Kp.refl | assumption | with_reducible refine Kp.put ?_ (by omega) _ | with_reducible refine Kp.setN ?_ (by omega) _ | with_reducible refine Kp.keep ?_ _ | with_reducible refine Kp.setW ?_ (by rfl) _) (by omega) (ltN gN (by omega)) hr Y
    clear hl
    obtain ⟨_, _, e', v', rfl, hsc, _⟩ := hr
    rcases hsc with rfl | ⟨c2, rfl⟩
    all_goals
      (repeat first | refine RunL.go ?_ | refine RunL.endL ?_ | refine thenN ?_ | refine blkN ?_)
      exact WW.ret ⟨.inl rfl, [.agg [.int .i64 e', _]], gRES, hR _⟩
set_option maxHeartbeats 4000000 in
theorem box_DoCall_ac {md : Bool} {h : AHeap} {n : CaN} {x : CaS} {Post : Int → AV → CaS → Prop} {b w : Nat} {sv : AV} (hg : CaG md h n x) (hbx : BoxAt h b (boxO w (.ptr n.c 0 0) sv)) (k lba : Int) (u : AV) (hu : u = .nils ∨ ∃ c, u = .imm 1 c)
    (hac : ∀ h2, Kp (fun _ => False) h h2 → CaG md h2 n x → AC Tryz.prog 57 [.ptr n.c 0 0, .agg [.int .i64 k, .int .i64 lba, u]] h2 (CaR md h2 n Post)) :
    AC Tryz.prog 13 [.ptr b 0 0, .agg [.int .i64 1, .int .i64 k, .int .i64 lba, u, .int .i64 0, .int .i64 0, .nils, .nils]] h (CaR md h n Post) := by
  refine AC.introW is_play_Box_Do (by simp) ?_
  unfold c_play_Box_Do
  rcases hu with rfl | ⟨c, rfl⟩
  all_goals
    (refine go ?_)
    refine WL.live fun hl => ?_
    have hb2 : ∀ h2, Kp (fun _ => False) h h2 → BoxAt h2 b (boxO w (.ptr n.c 0 0) sv) := fun h2 k2 => hbx.kp k2 (fun h => h)
    refine WL.callA rfl (by first | exact True.intro | exact rfl) gSL (box_call_ac (hg.new (n := n) (by repeat first | exact Kp.refl | assumption | with_reducible refine Kp.put ?_ (by omega) _ | with_reducible refine Kp.setN ?_ (by omega) _ | with_reducible refine Kp.keep ?_ _ | with_reducible refine Kp.setW ?_ (by rfl) _)) (hb2 _ (by repeat first | exact Kp.refl | assumption | with_reducible refine Kp.put ?_ (by omega) _ | with_reducible refine Kp.setN ?_ (by omega) _ | with_reducible refine Kp.keep ?_ _ | with_reducible refine Kp.setW ?_ (by rfl) _)) k lba _ (by first | exact .inl rfl | exact .inr ⟨_, rfl⟩) (fun h3 k3 g3 => hac h3 (Kp.trans (by repeat first | exact Kp.refl | assumption | with_reducible refine Kp.put ?_ (by omega) _ | with_reducible refine Kp.setN ?_ (by omega) _ | with_reducible refine Kp.keep ?_ _ | with_reducible refine Kp.setW ?_ (by rfl) _) k3) g3)) ?_
    intro r h5 hr
    have b5 := (hr.keep ⟨hl (h.next + 1) (.mem 2 [[.int .i64 0, .nils]]) gH, gH⟩ (fun q => by have := (hg.w.us _ q).1; omega) (fun q => by have := hg.lt _ q; omega)).g
    have hR := fun Y => CaR.cell (T := h.next + 1) hg (by repeat first | exact Kp.refl | assumption | with_reducible refine Kp.put ?_ (by omega) _ | with_reducible refine Kp.setN ?_ (by omega) _ | with_reducible refine Kp.keep ?_ _ | with_reducible refine Kp.setW ?_ (by rfl) _) (by omega) (ltN gN (by omega)) hr Y
    clear hl hac
    obtain ⟨_, _, e', v', rfl, hsc, _⟩ := hr
    rcases hsc with rfl | ⟨c2, rfl⟩
    all_goals
      (refine go ?_)
      exact WW.ret ⟨.inl rfl, [.agg [.int .i64 e', _]], gRES, hR _⟩
/-- Without a cache no call is answered. -/
theorem box_callN_ae {h : AHeap} {b w : Nat} {sv : AV} (hbx : BoxAt h b (boxO w .nilp sv)) (k lba : Int) : AE Tryz.prog 27 [.ptr b 0 0, .agg [.int .i64 k, .int .i64 lba, .nils]] h (.agg [.int .i64 8, .nils]) h := by
  refine AE.pureW is_play_Box_call (by simp) ?_
  unfold c_play_Box_call
  have hb := hbx.g
  simp only [boxO] at hb
  have hbl := hbx.u.1
  (refine go ?_)
  refine WW.ret (PureQ.finD ?_)
  exact fz_told _
theorem box_DoCallN_ae {h : AHeap} {b w : Nat} {sv : AV} (hbx : BoxAt h b (boxO w .nilp sv)) (k lba : Int) : AE Tryz.prog 13 [.ptr b 0 0, .agg [.int .i64 1, .int .i64 k, .int .i64 lba, .nils, .int .i64 0, .int .i64 0, .nils, .nils]] h (.agg [.int .i64 8, .nils]) h := by
  refine AE.pureW is_play_Box_Do (by simp) ?_
  unfold c_play_Box_Do
  have hbl := hbx.u.1
  (refine go ?_)
  refine WL.call rfl (by first | exact True.intro | exact rfl) gSL (box_callN_ae (hbx.kp (W := fun _ => False) (by repeat first | exact Kp.refl | assumption | with_reducible refine Kp.put ?_ (by omega) _ | with_reducible refine Kp.setN ?_ (by omega) _ | with_reducible refine Kp.keep ?_ _ | with_reducible refine Kp.setW ?_ (by rfl) _) (fun h => h)) k lba) ?_
  (refine go ?_)
  refine WW.ret (PureQ.finD ?_)
  exact fz_told _
end Go.Proofs.YtafkhpjnihnfpaaGreat


namespace Go.Proofs.YtafkhpjnihnfpaaGreat
open Go Go.Abs

theorem boxO_kp {n : WN} {h : AHeap} {b : Nat} {cv cv' sv : AV} (hb : BoxAt h b (boxO (n.a + 10) cv sv)) : Kp (fun id => id = b) h (h.set b (some (boxO (n.a + 10) cv' sv))) := Kp.cvt rfl rfl fun id hi => get_set_neE hi rfl
set_option maxHeartbeats 2000000 in
theorem box_crash_ac {md : Bool} {h : AHeap} {n : WN} {s : WS} {k : Nat} {b : Nat} {cv sv : AV} (hg : WG md h n s) (hs : WSt md s k) (hk : k ≤ 6000) (hd : s.dk.waits = []) (hbx : BoxAt h b (boxO (n.a + 10) cv sv)) (hnb : ¬ n.nm md b) {P2 : AV → AHeap → AHeap → Prop} {e : Int} (keep : List Bool) (hkl : keep.length ≤ 9223372036854775807) (hcs : ∀ cv' h2 h3, P2 cv' h2 h3 → cv' = .nilp ∨ ∃ c, cv' = .ptr c 0 0)
    (hO : ∀ h2, WG md h2 n (s.crash (keepF keep)) → AC Tryz.prog 26 [.ptr (n.a + 10) 0 0] h2 (fun r h3 => ∃ cv', r = .tup [cv', .int .i64 e] ∧ P2 cv' h2 h3 ∧ Kp (n.own md) h2 h3)) :
    AC Tryz.prog 29 [.ptr b 0 0, .imm 1 (keep.map encBo)] h (fun r h' => r = .int .i64 e ∧ ∃ cv' h2 h3, P2 cv' h2 h3 ∧ h.next ≤ h2.next ∧ h' = h3.set b (some (boxO (n.a + 10) cv' sv)) ∧ BoxAt h3 b (boxO (n.a + 10) cv sv) ∧ Kp (n.own md) h h3) := by
  refine AC.introW is_play_Box_crash (by simp) ?_
  unfold c_play_Box_crash
  have hb := hbx.g
  simp only [boxO] at hb
  (refine go ?_)
  refine WL.callA rfl (by first | exact True.intro | exact rfl) gSL (crash_ac hg hs.fit (by omega) hd keep hkl) ?_
  rintro _ h2 ⟨rfl, g2, k2⟩
  have b2 := hbx.kp k2 (fun q => hnb (.inl (WN.own_all q)))
  clear hb
  have hb := b2.g
  simp only [boxO] at hb
  (refine go ?_)
  refine WL.callA rfl (by first | exact True.intro | exact rfl) gSL (hO h2 g2) ?_
  rintro _ h3 ⟨cv', rfl, hP, k3⟩
  have b3 := b2.kp k3 (fun q => hnb (.inl (WN.own_all q)))
  clear hb
  have hb := b3.g
  simp only [boxO] at hb
  have hx2 := k2.next
  rcases hcs _ _ _ hP with rfl | ⟨c, rfl⟩
  all_goals
    (refine go ?_)
    exact WW.ret ⟨.inl rfl, _, gRES, rfl, _, h2, h3, hP, hx2, rfl, b3, k2.trans k3⟩
set_option maxHeartbeats 2000000 in
theorem box_DoCrash_ac {h : AHeap} {b : Nat} {e : Int} {R : AHeap → Prop} (hbl : b < h.next)
    (hac : ∀ h2, Kp (fun _ => False) h h2 → h.next + 2 ≤ h2.next → AC Tryz.prog 29 [.ptr b 0 0, .imm 1 ([] : List (List AV))] h2 (fun r h' => r = .int .i64 e ∧ R h' ∧ Kp (fun id => id < h.next) h2 h'))
    (hR : ∀ h3 Y, R h3 → R (h3.set (h.next + 1) (some Y))) :
    AC Tryz.prog 13 [.ptr b 0 0, .agg [.int .i64 3, .int .i64 0, .int .i64 0, .nils, .int .i64 0, .int .i64 0, .nils, .nils]] h (fun r h' => r = .agg [.int .i64 e, .nils] ∧ R h') := by
  refine AC.introW is_play_Box_Do (by simp) ?_
  unfold c_play_Box_Do
  (refine go ?_)
  refine WL.live fun hl => ?_
  refine WL.callA rfl (by first | exact True.intro | exact rfl) gSL (hac _ (by repeat first | exact Kp.refl | assumption | with_reducible refine Kp.put ?_ (by omega) _ | with_reducible refine Kp.setN ?_ (by omega) _ | with_reducible refine Kp.keep ?_ _ | with_reducible refine Kp.setW ?_ (by rfl) _) (leN gN (by omega))) ?_
  rintro _ h5 ⟨rfl, hr, k5⟩
  have b5 := (BoxAt.kp ⟨hl (h.next + 1) (.mem 2 [[.int .i64 0, .nils]]) gH, gH⟩ k5 (by omega)).g
  have hx5 : h.next + 1 < h5.next := Nat.lt_of_lt_of_le (ltN gN (by omega)) k5.next
  have hRR := hR h5 (.mem 2 [[.int .i64 e, .nils]]) hr
  clear hl
  (refine go ?_)
  exact WW.ret ⟨.inl rfl, _, gRES, rfl, hRR⟩
set_option maxHeartbeats 2000000 in
theorem box_DoSmash_ac {md : Bool} {h : AHeap} {n : WN} {s : WS} {k : Nat} {b : Nat} {cv sv : AV} (hg : WG md h n s) (hs : WSt md s k) (hk : k ≤ 6000) (hbx : BoxAt h b (boxO (n.a + 10) cv sv)) (off : Int) (d : Bs) (hd : d.length ≤ 1000000) (hin : inB s.sd.lasts.length off d.length = true) :
    AC Tryz.prog 13 [.ptr b 0 0, .agg [.int .i64 4, .int .i64 0, .int .i64 0, .nils, .int .i64 0, .int .i64 off, .imm 1 (d.map encB), .nils]] h (fun r h' => r = .agg [.int .i64 0, .nils] ∧ WG md h' n (s.smash (off, d)) ∧ Kp (n.own md) h h') := by
  have hgg := isG_cases hs.fit.g
  have hll : s.sd.lasts.length = (s.n * 160 + 120).toNat := by rw [hs.fit.sd.len, sizeG_pos hs.fit.g]
  have hfit : ∀ o ∈ s.sd.waits, 0 ≤ o.1 ∧ o.1 + o.2.length ≤ s.sd.lasts.length := fun o ho => by have := hs.fit.sd.w o ho; rw [sizeG_pos hs.fit.g] at this; omega
  have hkw := hs.fit.sd.kw
  refine AC.introW is_play_Box_Do (by simp) ?_
  unfold c_play_Box_Do
  have hb := hbx.g
  simp only [boxO] at hb
  have hbl := hbx.u.1
  have hob := hg.w.w
  simp only [wRow] at hob
  have hna : n.a + 11 ≤ h.next := hg.w.nx
  (repeat first | refine WL.go ?_ | refine WW.seq ?_ | refine WW.reg ?_ | refine WL.nil ?_ | refine WW.skip ?_ | refine WW.block ?_ | refine WW.exit ?_ | refine WW.condT rfl ?_ | refine WW.condF rfl ?_ | refine WL.gox ?_ | refine thenN ?_ | refine blkN ?_)
  refine WW.live fun hl => ?_
  refine WW.named (fun h2 => WG md h2 n s ∧ Kp (fun _ => False) h h2 ∧ h2.get b = some (.mem 3 [[.ptr (n.a + 10) 0 0, cv, sv]]) ∧ h2.get h.next = some (.mem 8 [[.int .i64 4, .int .i64 0, .int .i64 0, .nils, .int .i64 0, .int .i64 off, .imm 1 (d.map encB), .nils]]) ∧ BoxAt h2 (h.next + 1) (.mem 2 [[.int .i64 0, .nils]])) ⟨hg.new (by repeat first | exact Kp.refl | assumption | with_reducible refine Kp.put ?_ (by omega) _ | with_reducible refine Kp.setN ?_ (by omega) _ | with_reducible refine Kp.keep ?_ _ | with_reducible refine Kp.setW ?_ (by rfl) _), (by repeat first | exact Kp.refl | assumption | with_reducible refine Kp.put ?_ (by omega) _ | with_reducible refine Kp.setN ?_ (by omega) _ | with_reducible refine Kp.keep ?_ _ | with_reducible refine Kp.setW ?_ (by rfl) _), gH, gH, hl _ _ gH, gH⟩ ?_
  clear hl hb hob
  rintro h2 ⟨g2, k2, hb, ha, t2⟩
  have hob := g2.w.w
  simp only [wRow] at hob
  refine WW.dregC 11 (by decide +kernel) ?_
  (repeat first | refine PW.go ?_ | refine PW.nil ?_)
  refine RunL.call rfl (by first | exact True.intro | exact rfl) gSL (ssd_Smash_ae g2.w.sd (by omega) (by omega) hfit off d hd) ?_
  rintro _ h3 ⟨rfl, e3⟩
  have g3 : WG md h3 n (s.smash (off, d)) := by rw [e3]; exact g2.step (g2.w.putSd _ _) (kp_sd n _ _)
  have k3 : Kp (n.own md) h2 h3 := by rw [e3]; exact kp_sd n _ _
  have hno : ∀ id, n.own md id → id < h.next := fun id hi => (hg.us _ (.inl (WN.own_all hi))).1
  have t3 := t2.kp k3 (fun q => by have := hno _ q; omega)
  have ht := t3.g
  rw [hin]
  clear e3 ha hb hob
  (repeat first | refine RunL.go ?_ | refine RunL.endL ?_ | refine thenN ?_ | refine blkN ?_)
  (refine go ?_)
  have kt : Kp (fun id => id = h.next + 1) h3 (h3.set (h.next + 1) (some (.mem 2 [[.int .i64 0, .nils]]))) := Kp.cvt rfl rfl fun id hi => get_set_neE hi rfl
  refine WW.ret ⟨.inl rfl, _, gRES, rfl, g3.kp kt fun id hi q => by have := (hg.us _ hi).1; omega, ?_⟩
  exact ((k2.mono fun _ _ h => h.elim).trans k3).trans2 kt fun id hi => .inr (by omega)
set_option maxHeartbeats 2000000 in
theorem box_DoSnap_ac {md : Bool} {h : AHeap} {n : WN} {s : WS} {k : Nat} {b : Nat} {cv : AV} (hg : WG md h n s) (hs : WSt md s k) (hk : k ≤ 6000) (hbx : BoxAt h b (boxO (n.a + 10) cv .nils)) :
    AC Tryz.prog 13 [.ptr b 0 0, .agg [.int .i64 5, .int .i64 0, .int .i64 0, .nils, .int .i64 0, .int .i64 0, .nils, .nils]] h (fun r h' => r = .agg [.int .i64 0, .nils] ∧ BoxAt h' b (boxO (n.a + 10) cv (.imm 1 [encR s.sd.snap])) ∧ Kp (fun id => id = b) h h') := by
  refine AC.introW is_play_Box_Do (by simp) ?_
  unfold c_play_Box_Do
  have hb := hbx.g
  simp only [boxO] at hb
  have hbl := hbx.u.1
  have hob := hg.w.w
  simp only [wRow] at hob
  have hna : n.a + 11 ≤ h.next := hg.w.nx
  (repeat first | refine WL.go ?_ | refine WW.seq ?_ | refine WW.reg ?_ | refine WL.nil ?_ | refine WW.skip ?_ | refine WW.block ?_ | refine WW.exit ?_ | refine WW.condT rfl ?_ | refine WW.condF rfl ?_ | refine WL.gox ?_ | refine thenN ?_ | refine blkN ?_)
  refine WW.live fun hl => ?_
  refine WW.dregC 15 (by decide +kernel) ?_
  (repeat first | refine PW.go ?_ | refine PW.nil ?_)
  refine PW.call rfl (by first | exact True.intro | exact rfl) gSL (snap_ae (hg.new (by repeat first | exact Kp.refl | assumption | with_reducible refine Kp.put ?_ (by omega) _ | with_reducible refine Kp.setN ?_ (by omega) _ | with_reducible refine Kp.keep ?_ _ | with_reducible refine Kp.setW ?_ (by rfl) _)) hs.fit (by omega)) ?_
  (repeat first | refine PW.go ?_ | refine PW.nil ?_)
  refine PW.fx (FX.appI rfl rfl rfl (by simp) (by first | exact True.intro | exact rfl)) ?_
  (repeat first | refine PW.go ?_ | refine PW.nil ?_)
  (repeat first | refine RunL.go ?_ | refine RunL.endL ?_ | refine thenN ?_ | refine blkN ?_)
  (refine go ?_)
  refine WW.ret ⟨.inl rfl, _, gRES, rfl, ⟨hl b _ (by exact gH), gH⟩, (by repeat first | exact Kp.refl | assumption | with_reducible refine Kp.put ?_ (by omega) _ | with_reducible refine Kp.setN ?_ (by omega) _ | with_reducible refine Kp.keep ?_ _ | with_reducible refine Kp.setW ?_ (by rfl) _)⟩
end Go.Proofs.YtafkhpjnihnfpaaGreat


namespace Go.Proofs.YtafkhpjnihnfpaaGreat
open Go Go.Abs

set_option maxHeartbeats 2000000 in
theorem box_back_ac {md : Bool} {h : AHeap} {n : WN} {s : WS} {k : Nat} {b : Nat} {cv : AV} {c : Bs} (hg : WG md h n s) (hs : WSt md s k) (hbx : BoxAt h b (boxO (n.a + 10) cv (.imm 1 [encR c]))) (hc : c.length = s.sd.lasts.length) :
    AC Tryz.prog 31 [.ptr b 0 0, .int .i64 0] h (fun r h' => r = .int .i64 0 ∧ ∃ B, h.next ≤ B ∧ WG md h' { n with B := B } (s.back c) ∧ Kp (n.own md) h h') := by
  refine AC.introW is_play_Box_back (by simp) ?_
  unfold c_play_Box_back
  have hb := hbx.g
  simp only [boxO] at hb
  have hob := hg.w.w
  simp only [wRow] at hob
  (repeat first | refine WL.go ?_ | refine WW.seq ?_ | refine WW.reg ?_ | refine WL.nil ?_ | refine WW.skip ?_ | refine WW.block ?_ | refine WW.exit ?_ | refine WW.condT rfl ?_ | refine WW.condF rfl ?_ | refine WL.gox ?_ | refine thenN ?_ | refine blkN ?_)
  refine WW.dregC 26 (by decide +kernel) ?_
  (repeat first | refine PW.go ?_ | refine PW.nil ?_)
  refine RunL.call rfl (by first | exact True.intro | exact rfl) gSL (ssd_Back_ac hg hs.fit hc) ?_
  rintro _ h3 ⟨rfl, B, hB, g3, k3⟩
  (repeat first | refine RunL.go ?_ | refine RunL.endL ?_ | refine thenN ?_ | refine blkN ?_)
  (refine go ?_)
  exact WW.ret ⟨.inl rfl, _, gRES, rfl, B, hB, g3, k3⟩
set_option maxHeartbeats 2000000 in
theorem box_DoBack_ac {md : Bool} {h : AHeap} {n : WN} {s : WS} {k : Nat} {b : Nat} {cv : AV} {c : Bs} (hg : WG md h n s) (hs : WSt md s k) (hbx : BoxAt h b (boxO (n.a + 10) cv (.imm 1 [encR c]))) (hc : c.length = s.sd.lasts.length) :
    AC Tryz.prog 13 [.ptr b 0 0, .agg [.int .i64 6, .int .i64 0, .int .i64 0, .nils, .int .i64 0, .int .i64 0, .nils, .nils]] h (fun r h' => r = .agg [.int .i64 0, .nils] ∧ ∃ B, h.next ≤ B ∧ WG md h' { n with B := B } (s.back c) ∧ Kp (n.own md) h h') := by
  refine AC.introW is_play_Box_Do (by simp) ?_
  unfold c_play_Box_Do
  have hno : ∀ id, n.own md id → id < h.next := fun id hi => (hg.us _ (.inl (WN.own_all hi))).1
  (refine go ?_)
  refine WL.live fun hl => ?_
  refine WL.callA rfl (by first | exact True.intro | exact rfl) gSL (box_back_ac (hg.new (by repeat first | exact Kp.refl | assumption | with_reducible refine Kp.put ?_ (by omega) _ | with_reducible refine Kp.setN ?_ (by omega) _ | with_reducible refine Kp.keep ?_ _ | with_reducible refine Kp.setW ?_ (by rfl) _)) hs (hbx.kp (W := fun _ => False) (by repeat first | exact Kp.refl | assumption | with_reducible refine Kp.put ?_ (by omega) _ | with_reducible refine Kp.setN ?_ (by omega) _ | with_reducible refine Kp.keep ?_ _ | with_reducible refine Kp.setW ?_ (by rfl) _) (fun h => h)) hc) ?_
  rintro _ h3 ⟨rfl, B, hB, g3, k3⟩
  have t3 := (BoxAt.kp ⟨hl (h.next + 1) (.mem 2 [[.int .i64 0, .nils]]) gH, gH⟩ k3 (fun q => by have := hno _ q; omega)).g
  have k2 : Kp (n.own md) h h3 := Kp.trans (((by repeat first | exact Kp.refl | assumption | with_reducible refine Kp.put ?_ (by omega) _ | with_reducible refine Kp.setN ?_ (by omega) _ | with_reducible refine Kp.keep ?_ _ | with_reducible refine Kp.setW ?_ (by rfl) _) : Kp (fun _ => False) h _).mono fun _ _ h => h.elim) k3
  have hB2 : h.next + 2 ≤ B := Nat.le_trans (leN gN (by omega)) hB
  clear hl
  (refine go ?_)
  have kt : Kp (fun id => id = h.next + 1) h3 (h3.set (h.next + 1) (some (.mem 2 [[.int .i64 0, .nils]]))) := Kp.cvt rfl rfl fun id hi => get_set_neE hi rfl
  refine WW.ret ⟨.inl rfl, _, gRES, rfl, B, by omega, g3.kp kt fun id hi q => ?_, k2.trans2 kt fun id hi => .inr (by omega)⟩
  have hlt : ∀ id, n.nm md id → id < h.next := fun id hi => (hg.us _ hi).1
  have : id = B ∨ n.nm md id := by
    rcases hi with hi | hi
    · rcases hi with hi | hi | hi | hi
      · exact .inr (.inl (.inl hi))
      · exact .inr (.inl (.inr (.inl hi)))
      · dsimp only at hi
        by_cases e : id = B
        · exact .inl e
        · exact .inr (.inl (.inr (.inr (.inl (by omega)))))
      · exact .inr (.inl (.inr (.inr (.inr hi))))
    · exact .inr (.inr hi)
  rcases this with h6 | h6
  · omega
  · have := hlt _ h6; omega
end Go.Proofs.YtafkhpjnihnfpaaGreat


namespace Go.Proofs.YtafkhpjnihnfpaaGreat
open Go Go.Abs

/-- What a commit adds to what was sealed. -/
theorem doC_L {s : WS} {boot : Int} {j : Nat} {lv : List Lf} : ∀ x ∈ (s.doC true boot j lv).2.1.L, x ∈ s.L ∨ (x.n.2.2 = boot * 4294967296 + ((j + 1 : Nat) : Int) ∧ x.data = rootB (s.doR true lv)) := by
  obtain ⟨_, e2, _, _⟩ := areaW_ks true s s.doA lv
  have a1 : ∀ x ∈ (s.areaW true s.doA lv).L, x ∈ s.L ∨ (x.n.2.2 = boot * 4294967296 + ((j + 1 : Nat) : Int) ∧ x.data = rootB (s.doR true lv)) := fun x hx => by rw [e2] at hx; exact .inl hx
  have a3 : ∀ x ∈ ((s.areaW true s.doA lv).barS.logW true boot j (s.doR true lv)).L, x ∈ s.L ∨ (x.n.2.2 = boot * 4294967296 + ((j + 1 : Nat) : Int) ∧ x.data = rootB (s.doR true lv)) := by
    have := sealL_mem (md := true) (L := (s.areaW true s.doA lv).barS.L) (k := (s.areaW true s.doA lv).barS.key) (n := (s.areaW true s.doA lv).barS.logN boot j) (hd := []) (d := rootB (s.doR true lv)) (P := fun x => x ∈ s.L ∨ (x.n.2.2 = boot * 4294967296 + ((j + 1 : Nat) : Int) ∧ x.data = rootB (s.doR true lv))) a1 (.inr ⟨rfl, rfl⟩)
    exact this
  exact doC_ind (P := fun d => ∀ x ∈ d.2.1.L, x ∈ s.L ∨ (x.n.2.2 = boot * 4294967296 + ((j + 1 : Nat) : Int) ∧ x.data = rootB (s.doR true lv))) (fun _ => a1) (fun _ _ => a1) (fun _ _ _ => a1) (fun _ _ _ _ => a3) (fun _ _ _ _ _ => a3) (fun _ _ _ _ _ _ => a3) (fun _ _ _ _ _ _ => a3)
/-- The last commit, and that the number of its boot is its alone. -/
def LastC (s : WS) (want : List Lf) : Prop :=
  (s.ct.value = 0 ∧ want = List.replicate 4 lf0) ∨ ∃ top e v b tg, Good true s want s.ct.value top e v b tg ∧ ∀ x ∈ s.L, x.n.2.2 / 4294967296 = s.ct.at' → x.data = rootB ⟨s.ct.value, e, s.n, top⟩
structure FoeI (i : Nat) (s : WS) (want : List Lf) : Prop where
  st : WSt true s (60 * i)
  fr : s.pw.Free
  n : s.n = 4
  dk : s.dk.waits = []
  b : s.ct.boots = i
  a : s.ct.at' ≤ i
  one : ∀ x ∈ s.L, x.n.2.2 / 4294967296 ≤ i
  w : want.length = 4
  g : LastC s want
theorem FoeI.step {i : Nat} {s : WS} {want lv : List Lf} (h : FoeI i s want) (hi : i < 12) (m : Int) (hm : -9223372036854775808 ≤ m ∧ m ≤ 9223372036854775807) (hl : lv.length = 4) (hw : ∀ x ∈ lv, x.Wf) (hok : lvOk lv 0 = true) (K : Nat → Bool) :
    WSt true (s.bootS.fused m) (60 * i + 1) ∧ FoeI (i + 1) (((s.bootS.fused m).doC true ((i + 1 : Nat) : Int) 0 lv).2.1.crash K) (if s.ct.value < ((s.bootS.fused m).doC true ((i + 1 : Nat) : Int) 0 lv).2.1.ct.value then lv else want) ∧ WSt true ((s.bootS.fused m).doC true ((i + 1 : Nat) : Int) 0 lv).2.1 (60 * i + 51) ∧ ((s.bootS.fused m).doC true ((i + 1 : Nat) : Int) 0 lv).2.1.dk.waits = [] ∧ ((s.bootS.fused m).doC true ((i + 1 : Nat) : Int) 0 lv).2.1.n = 4 := by
  have S1 : WSt true (s.bootS.fused m) (60 * i + 1) := h.st.boot.fused m hm
  have hb : (s.bootS.fused m).ct = ⟨s.ct.value, s.ct.boots + 1, s.ct.at'⟩ := boot_ct h.fr
  have hln : (lv.length : Int) = (s.bootS.fused m).n := by rw [hl]; exact h.n.symm
  have S2 := doC_wst (md := true) (boot := ((i + 1 : Nat) : Int)) (j := 0) S1 hln
  have hdk : ((s.bootS.fused m).doC true ((i + 1 : Nat) : Int) 0 lv).2.1.dk.waits = [] := by rw [doC_dk]; exact h.dk
  have hn2 := (doC_n (md := true) (s := s.bootS.fused m) (boot := ((i + 1 : Nat) : Int)) (j := 0) (lv := lv)).1
  have hn4 : ((s.bootS.fused m).doC true ((i + 1 : Nat) : Int) 0 lv).2.1.n = 4 := hn2.trans h.n
  have hL := doC_L (s := s.bootS.fused m) (boot := ((i + 1 : Nat) : Int)) (j := 0) (lv := lv)
  have hct := doC_ct (md := true) (s := s.bootS.fused m) (boot := ((i + 1 : Nat) : Int)) (j := 0) (lv := lv)
  have hbb := h.b
  have hone := h.one
  have haa := h.a
  have hq : (((i + 1 : Nat) : Int) * 4294967296 + ((0 + 1 : Nat) : Int)) / 4294967296 = i + 1 := by omega
  have hLs : (s.bootS.fused m).L = s.L := rfl
  rw [hLs] at hL
  have hone2 : ∀ x ∈ ((s.bootS.fused m).doC true ((i + 1 : Nat) : Int) 0 lv).2.1.L, x.n.2.2 / 4294967296 ≤ ((i + 1 : Nat) : Int) := fun x hx => by
    rcases hL x hx with hx | ⟨hx, _⟩
    · have := hone x hx; omega
    · rw [hx, hq]; omega
  refine ⟨S1, ?_, S2, hdk, hn4⟩
  by_cases hd : ((s.bootS.fused m).doC true ((i + 1 : Nat) : Int) 0 lv).1 = 0
  · rw [if_pos hd, hb] at hct
    obtain ⟨_, G⟩ := good_done (md := true) (lv := lv) S1 (by omega) hln hw hok (show ((i + 1 : Nat) : Int) = (s.bootS.fused m).ct.boots by rw [hb]; dsimp only; omega) (j := 0) (by omega) hd
    have hv : ((s.bootS.fused m).doC true ((i + 1 : Nat) : Int) 0 lv).2.1.ct.value = (s.bootS.fused m).ct.value + 1 := by rw [hct, hb]; rfl
    rw [if_pos (by rw [hv, hb]; dsimp only; omega)]
    have hat : ((s.bootS.fused m).doC true ((i + 1 : Nat) : Int) 0 lv).2.1.ct.at' = ((i + 1 : Nat) : Int) := by rw [hct]; show s.ct.boots + 1 = _; omega
    refine ⟨(S2.crash K).mono (by omega), crash_free _ _, hn4, rfl, by show ((s.bootS.fused m).doC true ((i + 1 : Nat) : Int) 0 lv).2.1.ct.boots = _; rw [hct]; show s.ct.boots + 1 = _; omega, by show ((s.bootS.fused m).doC true ((i + 1 : Nat) : Int) 0 lv).2.1.ct.at' ≤ _; omega, hone2, hl, .inr ?_⟩
    rw [← hv] at G
    refine ⟨_, _, _, _, _, G.settle S2.fit K, fun x hx hxa => ?_⟩
    rcases hL x hx with hx | ⟨_, hx⟩
    · have := hone x hx
      have hxa' : x.n.2.2 / 4294967296 = ((s.bootS.fused m).doC true ((i + 1 : Nat) : Int) 0 lv).2.1.ct.at' := hxa
      omega
    · rw [hx]
      show rootB ⟨(s.bootS.fused m).ct.value + 1, (s.bootS.fused m).ks.cur, (s.bootS.fused m).n, _⟩ = rootB ⟨((s.bootS.fused m).doC true ((i + 1 : Nat) : Int) 0 lv).2.1.ct.value, _, ((s.bootS.fused m).doC true ((i + 1 : Nat) : Int) 0 lv).2.1.n, _⟩
      rw [hv, hn2]
  · rw [if_neg hd] at hct
    rw [if_neg (by rw [hct, hb]; dsimp only; omega)]
    refine ⟨(S2.crash K).mono (by omega), crash_free _ _, hn4, rfl, by show ((s.bootS.fused m).doC true ((i + 1 : Nat) : Int) 0 lv).2.1.ct.boots = _; rw [hct, hb]; dsimp only; omega, by show ((s.bootS.fused m).doC true ((i + 1 : Nat) : Int) 0 lv).2.1.ct.at' ≤ _; rw [hct, hb]; dsimp only; omega, hone2, h.w, ?_⟩
    rcases h.g with ⟨g1, g2⟩ | ⟨top, e, v, b, tg, G, g2⟩
    · exact .inl ⟨by show ((s.bootS.fused m).doC true ((i + 1 : Nat) : Int) 0 lv).2.1.ct.value = 0; rw [hct, hb]; exact g1, g2⟩
    · refine .inr ⟨top, e, v, b, tg, ?_, fun x hx hxa => ?_⟩
      · have G1 : Good true (s.bootS.fused m) want (s.bootS.fused m).ct.value top e v b tg := by
          rw [show (s.bootS.fused m).ct.value = s.ct.value by rw [hb]]
          exact G.to rfl rfl (by rw [hb]) G.op (Pre.refl _) G.kl G.kr
        have G2 := G1.undone (lw := lv) (boot := ((i + 1 : Nat) : Int)) (j := 0) S1 hln hd
        rw [show (s.bootS.fused m).ct.value = ((s.bootS.fused m).doC true ((i + 1 : Nat) : Int) 0 lv).2.1.ct.value by rw [hct]] at G2
        exact G2.settle S2.fit K
      · have hxa' : x.n.2.2 / 4294967296 = ((s.bootS.fused m).doC true ((i + 1 : Nat) : Int) 0 lv).2.1.ct.at' := hxa
        rw [hct, hb] at hxa'
        rcases hL x hx with hx | ⟨hx, _⟩
        · rw [g2 x hx hxa']
          show rootB ⟨s.ct.value, e, s.n, top⟩ = rootB ⟨((s.bootS.fused m).doC true ((i + 1 : Nat) : Int) 0 lv).2.1.ct.value, e, ((s.bootS.fused m).doC true ((i + 1 : Nat) : Int) 0 lv).2.1.n, top⟩
          rw [hct, hb, hn2]; rfl
        · rw [hx, hq] at hxa'; dsimp only at hxa'; omega
theorem LastC.load {s : WS} {want : List Lf} {k : Nat} (h : LastC s want) (hs : s.Fit k) (hgo : s.pw.gone = false) (hn : s.n = 4) : s.loadE true = 0 ∧ s.loadL true = want := by
  rcases h with ⟨g1, g2⟩ | ⟨top, e, v, b, tg, G, _⟩
  · obtain ⟨q1, q2, _⟩ := load_zero (md := true) hgo g1
    exact ⟨q1, by rw [q2, hn, g2]; rfl⟩
  · exact G.load hs hgo
end Go.Proofs.YtafkhpjnihnfpaaGreat


namespace Go.Proofs.YtafkhpjnihnfpaaGreat
open Go Go.Abs

theorem loadS_S {md : Bool} (s : WS) {k : Nat} (hs : s.Fit k) : Pre s.S (s.loadS md).S := by
  have hg := isG_cases hs.g
  rw [WS.loadS]
  repeat' split
  · exact Pre.refl _
  · exact Pre.refl _
  · exact Pre.refl _
  · exact readS_pre md _ (by omega)
theorem xorS8 {x y : UInt8} (h : x ^^^ y = x) : y = 0 := by
  have h1 := xor_b8 x y
  rw [h] at h1
  have hx := x.toNat_lt
  have hy := y.toNat_lt
  have := (xor_u8 (a := (x.toNat : Int)) (b := (y.toNat : Int)) (by omega) (by omega)).1 h1
  exact UInt8.toNat_inj.1 (by simpa using this)
/-- What comes to a top by an ideal lock is what was written. -/
theorem rows_foe {s : WS} {k : Nat} {a : Int} {lv : List Lf} {top : Pr} (hs : s.Fit k) (hk : k ≤ 9000) (hl : (lv.length : Int) = s.n) (ht : TopOf true s.S lv top) (hT : s.readT true a = top) (i : Nat) (hi : i < lv.length) : s.row a i = leafB lv[i] := by
  have hg := isG_cases hs.g
  obtain ⟨N, hN, h1⟩ := ht
  obtain ⟨p, hM⟩ := buildF_tree true (s.rows a s.n.toNat) s.S (by rw [rows_len]; omega)
  have hbl := (buildF_len true (s.rows a s.n.toNat) s.S).2
  rw [rows_len] at hbl
  have hss := hs.ss
  have := Tree.leaves (by omega) hM (hN.pre p) (by rw [rows_len, List.length_map]; omega) (by rw [rows_len]; omega) (hT.trans h1.symm)
  have h2 : (s.rows a s.n.toNat)[i]? = (lv.map leafB)[i]? := by rw [this]
  rw [List.getElem?_map, List.getElem?_eq_getElem hi, WS.rows, List.getElem?_map, List.getElem?_range (by omega)] at h2
  exact Option.some.inj h2
/-- A byte of the first leaf's, turned: nothing is loaded. -/
theorem shut_load {s s' : WS} {k : Nat} {lv : List Lf} {top : Pr} {e v : Int} {b : Bs} {tg : Pr} (G : Good true s lv 1 top e v b tg) (hs : s.Fit k) (h4 : s.n = 4) (hs' : s'.Fit k) (hk : k ≤ 9000) (hgo : s'.pw.gone = false) (hn : s'.n = s.n) (hks : s'.ks = s.ks) (hv : s'.ct.value = 1) (hat : s'.ct.at' = s.ct.at') (hL : s'.L = s.L) (hS : Pre s.S s'.S)
    (off : Nat) (ho : off < 32) (y : UInt8) (hc : s.sd.snap[384 + off]? ≠ some y) (hsn : s'.sd.snap = layO s.sd.snap (((384 + off : Nat) : Int), [y])) : s'.loadE true = 3 := by
  have hsl := snap_lenS hs
  have hsl4 : s.sd.snap.length = 760 := by rw [hsl, h4]; rfl
  have hlv : lv.length = 4 := by have := G.l; omega
  have hF := G.filed hs
  have hrec : s'.recOf 1 = recB e v b tg := by
    rw [← hF.rc]
    show sub s'.sd.snap (recAt s'.n 1).toNat 60 = sub s.sd.snap (recAt s.n 1).toNat 60
    rw [hsn, hn, h4, sub_out (by dsimp only; rw [hsl4]; simp; omega) (.inr (by dsimp only [recAt]; simp; omega))]
  have hF' : Filed true s' 1 ⟨1, e, s.n, top⟩ e v b tg := ⟨hrec, hF.he, hF.hv, hF.hb, hF.ht, by rw [hL, hks]; exact hF.op, hF.wf, hF.g, rfl⟩
  have hR := hF'.get (by rw [hks]; exact G.ep) (by rw [hat]; exact G.boot) hn.symm
  have hE : s'.getE true 1 = 0 := by rw [WS.getE, hgo, hR]; rfl
  have hT : s'.getT true 1 = ⟨1, e, s.n, top⟩ := by rw [WS.getT, hgo, hR]; rfl
  have hne : ¬ s'.readT true 1 = top := fun hh => by
    have h0 := rows_foe (a := 1) hs' hk (by rw [hn]; exact G.l) (G.top.pre hS) hh 0 (by omega)
    have h1 := row_of hs (a := 1) (by decide) G.l (G.kl.snap hs.sd) 0 (by omega)
    rw [← h1, WS.row_sub, WS.row_sub, hsn, hn, h4, show (lfAt 4 1 ((0 : Nat) : Int)).toNat = 384 from rfl] at h0
    have h2 := congrArg (fun l : Bs => l[off]?) h0
    simp only [sub, List.getElem?_take, List.getElem?_drop, if_pos ho] at h2
    rw [layO_get (by dsimp only; rw [hsl4]; simp; omega), if_pos (by simp only [Int.toNat_natCast, List.length_singleton]; omega)] at h2
    simp only [Int.toNat_natCast, Nat.sub_self, List.getElem?_cons_zero] at h2
    exact hc h2.symm
  have hrd : s'.readE true 1 top = 3 := by rw [WS.readE, hgo, if_neg (by simp), if_neg (fun h => hne h.1)]
  rw [WS.loadE, hgo, hv, hE, hT]
  simpa using hrd
end Go.Proofs.YtafkhpjnihnfpaaGreat


namespace Go.Proofs.YtafkhpjnihnfpaaGreat
open Go Go.Abs

theorem CaOk.com {md : Bool} {x : CaS} {k : Nat} (hx : CaOk md x k) : CaOk md (x.com md) (k + 50) :=
  ⟨doC_wst hx.st hx.l, hx.b, (doC_j hx.j).1, hx.l.trans doC_n.1.symm, hx.w, hx.ok⟩
theorem caR_com {md : Bool} {h2 h5 : AHeap} {n : CaN} {x : CaS} (g5 : CaG md h5 n.frz (x.com md)) (k5 : Kp (fun id => n.w.own md id ∨ n.own id) h2 h5) : CaR md h2 n (fun e v x' => e = x.comE md ∧ v = .nils ∧ x' = x.com md) (.agg [.int .i64 (x.comE md), .nils]) h5 :=
  ⟨n.frz, x.com md, x.comE md, .nils, rfl, .inl rfl, ⟨rfl, rfl, rfl⟩, g5, CaMv.frz, k5⟩
theorem cache_flush_ac {md : Bool} {h : AHeap} {n : CaN} {x : CaS} {k : Nat} (hg : CaG md h n x) (hx : CaOk md x k) (hk : k ≤ 8000) (lba : Int) :
    AC Tryz.prog 89 [.ptr n.c 0 0, .agg [.int .i64 3, .int .i64 lba, .nils]] h (CaR md h n (fun e v x' => e = x.comE md ∧ v = .nils ∧ x' = x.com md)) := by
  refine AC.introW is_cache_Cache_flush (by simp) ?_
  unfold c_cache_Cache_flush
  (refine go ?_)
  refine WL.live fun hl => ?_
  refine WL.callA rfl (by first | exact True.intro | exact rfl) gSL (cache_commit_ac (hg.new (by repeat first | exact Kp.refl | assumption | with_reducible refine Kp.put ?_ (by omega) _ | with_reducible refine Kp.setN ?_ (by omega) _ | with_reducible refine Kp.keep ?_ _ | with_reducible refine Kp.setW ?_ (by rfl) _)) hx hk) ?_
  rintro _ h5 ⟨rfl, g5, k5⟩
  have hr := caR_com g5 k5
  have b5 := (hr.keep ⟨hl (h.next + 1) (.mem 2 [[.int .i64 0, .nils]]) gH, gH⟩ (fun q => by have := (hg.w.us _ q).1; omega) (fun q => by have := hg.lt _ q; omega)).g
  have hR := fun Y => CaR.cell (T := h.next + 1) hg (by repeat first | exact Kp.refl | assumption | with_reducible refine Kp.put ?_ (by omega) _ | with_reducible refine Kp.setN ?_ (by omega) _ | with_reducible refine Kp.keep ?_ _ | with_reducible refine Kp.setW ?_ (by rfl) _) (by omega) (ltN gN (by omega)) hr Y
  clear hl
  (refine go ?_)
  exact WW.ret ⟨.inl rfl, [.agg [.int .i64 (x.comE md), _]], gRES, hR _⟩
theorem box_DoFlush_ac {md : Bool} {h : AHeap} {n : CaN} {x : CaS} {k : Nat} {b w : Nat} {sv : AV} (hg : CaG md h n x) (hx : CaOk md x k) (hk : k ≤ 8000) (hgo : x.s.pw.gone = false) (hb : x.bad = false) (hbx : BoxAt h b (boxO w (.ptr n.c 0 0) sv)) :
    AC Tryz.prog 13 [.ptr b 0 0, .agg [.int .i64 1, .int .i64 3, .int .i64 0, .nils, .int .i64 0, .int .i64 0, .nils, .nils]] h (CaR md h n (fun e v x' => e = x.comE md ∧ v = .nils ∧ x' = x.com md)) :=
  box_DoCall_ac hg hbx 3 0 .nils (.inl rfl) fun h2 k2 g2 => cache_Do_ac g2 hgo hb 3 0 .nils (.inl rfl) (by omega) (fun h3 => model_Is3_ae 3 (.inl rfl) 0 .nils (.inl rfl) h3) fun h3 k3 g3 => cache_flush_ac g3 hx hk 0
theorem box_DoCrashE_ac {md : Bool} {h : AHeap} {n : WN} {s : WS} {k : Nat} {b : Nat} {cv sv : AV} (hg : WG md h n s) (hs : WSt md s k) (hk : k ≤ 6000) (hd : s.dk.waits = []) (hbx : BoxAt h b (boxO (n.a + 10) cv sv)) (hnb : ¬ n.nm md b) (he : (s.crash (keepF [])).bootS.loadE md ≠ 0) :
    AC Tryz.prog 13 [.ptr b 0 0, .agg [.int .i64 3, .int .i64 0, .int .i64 0, .nils, .int .i64 0, .int .i64 0, .nils, .nils]] h
      (fun r h' => r = .agg [.int .i64 ((s.crash (keepF [])).bootS.loadE md), .nils] ∧ WG md h' n ((s.crash (keepF [])).bootS.loadS md) ∧ BoxAt h' b (boxO (n.a + 10) .nilp sv) ∧ Kp (fun id => n.own md id ∨ id = b) h h') := by
  have hnl : ∀ id, n.nm md id → id < h.next := fun id hi => (hg.us _ hi).1
  have hbl := hbx.u.1
  refine (box_DoCrash_ac (e := (s.crash (keepF [])).bootS.loadE md) (R := fun h' => WG md h' n ((s.crash (keepF [])).bootS.loadS md) ∧ BoxAt h' b (boxO (n.a + 10) .nilp sv) ∧ Kp (fun id => n.own md id ∨ id = b) h h') hbl (fun h2 k2 hx2 => ?_) (fun h3 Y hR => ?_)).mono fun r h' hh => hh
  · have g2 := hg.new k2
    refine (box_crash_ac g2 hs hk hd (hbx.kp k2 (fun h => h)) hnb (P2 := fun cv' _ h3 => cv' = .nilp ∧ WG md h3 n ((s.crash (keepF [])).bootS.loadS md)) (e := (s.crash (keepF [])).bootS.loadE md) [] (by decide) (fun cv' _ _ hP => .inl hP.1) (fun h3 g3 => ?_)).mono ?_
    · exact (cache_OpenE_ac g3 (hs.crash _) (by omega) (crash_free _ _) he).mono fun r h4 ⟨q1, q2, q3⟩ => ⟨_, q1, ⟨rfl, q2⟩, q3⟩
    · rintro r h' ⟨rfl, cv', h3, h4, ⟨rfl, g4⟩, hx, rfl, b4, k4⟩
      have kt := boxO_kp (cv' := .nilp) b4
      have kA : Kp (fun id => n.own md id ∨ id = b) h2 (h4.set b (some (boxO (n.a + 10) .nilp sv))) := (k4.mono fun _ _ hh => .inl hh).trans (kt.mono fun _ _ e => .inr e)
      refine ⟨rfl, ⟨g4.kp kt fun id hi e => hnb (e ▸ hi), ⟨kt.us _ b4.u, get_set_same⟩, (k2.mono fun _ _ h => h.elim).trans kA⟩, kA.mono fun id _ hh => ?_⟩
      rcases hh with hh | rfl
      · exact hnl _ (.inl (WN.own_all hh))
      · exact hbl
  · obtain ⟨r1, r2, r3⟩ := hR
    have kt : Kp (fun id => id = h.next + 1) h3 (h3.set (h.next + 1) (some Y)) := Kp.cvt rfl rfl fun id hi => get_set_neE hi rfl
    exact ⟨r1.kp kt fun id hi e => by have := hnl _ hi; omega, r2.kp kt (by omega), r3.trans2 kt fun id e => .inr (by omega)⟩
theorem box_DoCrashL_ac {md : Bool} {h : AHeap} {n : WN} {s : WS} {k : Nat} {b : Nat} {cv sv : AV} (hg : WG md h n s) (hs : WSt md s k) (hk : k ≤ 6000) (hd : s.dk.waits = []) (hbx : BoxAt h b (boxO (n.a + 10) cv sv)) (hnb : ¬ n.nm md b) (he : (s.crash (keepF [])).bootS.loadE md = 0) (hep : s.ks.epochs.length < 2) (hz : ∀ x ∈ (s.crash (keepF [])).bootS.loadL md, x.k = 0) (hll : ((s.crash (keepF [])).bootS.loadL md).length ≤ 16) :
    AC Tryz.prog 13 [.ptr b 0 0, .agg [.int .i64 3, .int .i64 0, .int .i64 0, .nils, .int .i64 0, .int .i64 0, .nils, .nils]] h
      (fun r h' => r = .agg [.int .i64 0, .nils] ∧ ∃ N : CaN, N.w = n ∧ CaG md h' N (caLoad md (s.crash (keepF []))) ∧ (∀ id, N.own id → h.next ≤ id) ∧ BoxAt h' b (boxO (n.a + 10) (.ptr N.c 0 0) sv) ∧ Kp (fun id => n.own md id ∨ id = b) h h') := by
  have hnl : ∀ id, n.nm md id → id < h.next := fun id hi => (hg.us _ hi).1
  have hbl := hbx.u.1
  refine (box_DoCrash_ac (e := 0) (R := fun h' => ∃ N : CaN, N.w = n ∧ CaG md h' N (caLoad md (s.crash (keepF []))) ∧ (∀ id, N.own id → h.next + 2 ≤ id) ∧ BoxAt h' b (boxO (n.a + 10) (.ptr N.c 0 0) sv) ∧ Kp (fun id => n.own md id ∨ id = b) h h') hbl (fun h2 k2 hx2 => ?_) (fun h3 Y hR => ?_)).mono fun r h' hh => ?_
  · have g2 := hg.new k2
    refine (box_crash_ac g2 hs hk hd (hbx.kp k2 (fun h => h)) hnb (P2 := fun cv' h5 h3 => ∃ N : CaN, cv' = .ptr N.c 0 0 ∧ N.w = n ∧ CaG md h3 N (caLoad md (s.crash (keepF []))) ∧ ∀ id, N.own id → h5.next ≤ id) (e := 0) [] (by decide) (fun cv' _ _ hP => .inr (by obtain ⟨N, rfl, _⟩ := hP; exact ⟨_, rfl⟩)) (fun h3 g3 => ?_)).mono ?_
    · exact (cache_OpenL_ac g3 (hs.crash _) (by omega) (crash_free _ _) he hep hz hll).mono fun r h4 ⟨N, q1, q2, q3, q4, q5⟩ => ⟨_, q1, ⟨N, rfl, q2, q3, q4⟩, q5⟩
    · rintro r h' ⟨rfl, cv', h3, h4, ⟨N, rfl, rfl, g4, hN⟩, hx, rfl, b4, k4⟩
      have kt := boxO_kp (cv' := .ptr N.c 0 0) b4
      have kA : Kp (fun id => N.w.own md id ∨ id = b) h2 (h4.set b (some (boxO (N.w.a + 10) (.ptr N.c 0 0) sv))) := (k4.mono fun _ _ hh => .inl hh).trans (kt.mono fun _ _ e => .inr e)
      refine ⟨rfl, ⟨N, rfl, g4.kp kt (fun id hi e => hnb (e ▸ hi)) (fun id hi e => ?_), fun id hi => ?_, ⟨kt.us _ b4.u, get_set_same⟩, (k2.mono fun _ _ h => h.elim).trans kA⟩, kA.mono fun id _ hh => ?_⟩
      · have := hN id hi; omega
      · have := hN id hi; omega
      · rcases hh with hh | rfl
        · exact hnl _ (.inl (WN.own_all hh))
        · exact hbl
  · obtain ⟨N, rfl, r1, r4, r2, r3⟩ := hR
    have kt : Kp (fun id => id = h.next + 1) h3 (h3.set (h.next + 1) (some Y)) := Kp.cvt rfl rfl fun id hi => get_set_neE hi rfl
    exact ⟨N, rfl, r1.kp kt (fun id hi e => by have := hnl _ hi; omega) (fun id hi e => by have := r4 _ hi; omega), r4, r2.kp kt (by omega), r3.trans2 kt fun id e => .inr (by omega)⟩
  · obtain ⟨rfl, N, q1, q2, q3, q4, q5⟩ := hh
    exact ⟨rfl, N, q1, q2, fun id hi => by have := q3 id hi; omega, q4, q5⟩
end Go.Proofs.YtafkhpjnihnfpaaGreat


namespace Go.Proofs.YtafkhpjnihnfpaaGreat
open Go Go.Abs

theorem box_CacheZ_ae {h : AHeap} {b : Nat} {w s : AV} (hb : h.get b = some (.mem 3 [[w, .nilp, s]])) : AE Tryz.prog 17 [.ptr b 0 0] h .nilp h := by
  refine AE.pureW is_play_Box_Cache (by simp) ?_
  unfold c_play_Box_Cache
  (refine go ?_)
  refine WW.ret (PureQ.finD ?_)
  exact .clo _ .nilp
theorem caOk0 : CaOk true (caNew (ws0 4 1) 4) 1 := ⟨(wst0 true (m := 4) rfl 1).boot, by decide, by decide, rfl, wf0, by decide⟩
/-- A world behind its first flush. -/
structure ShutI (s : WS) : Prop where
  st : WSt true s 51
  n : s.n = 4
  dk : s.dk.waits = []
  ct : s.ct = ⟨1, 1, 1⟩
  ep : s.ks.epochs.length < 2
  g : ∃ top e v b tg, Good true s (List.replicate 4 lf0) 1 top e v b tg
theorem com_ok : (caNew (ws0 4 1) 4).comE true = 0 := doC_ok ((free_ws0 4 1).spend) (by decide)
theorem shutI : ShutI ((caNew (ws0 4 1) 4).com true).s := by
  have hx := caOk0
  have h0 := com_ok
  have hl : ((List.replicate 4 lf0).length : Int) = (ws0 4 1).bootS.n := rfl
  have hct := doC_ct (md := true) (s := (ws0 4 1).bootS) (boot := 1) (j := 0) (lv := List.replicate 4 lf0)
  rw [if_pos (show ((ws0 4 1).bootS.doC true 1 0 (List.replicate 4 lf0)).1 = 0 from h0)] at hct
  obtain ⟨q1, q2⟩ := doC_n (md := true) (s := (ws0 4 1).bootS) (boot := 1) (j := 0) (lv := List.replicate 4 lf0)
  refine ⟨(hx.com).st, q1, ?_, hct, ?_, ?_⟩
  · show ((ws0 4 1).bootS.doC true 1 0 (List.replicate 4 lf0)).2.1.dk.waits = []
    rw [doC_dk]; rfl
  · show ((ws0 4 1).bootS.doC true 1 0 (List.replicate 4 lf0)).2.1.ks.epochs.length < 2
    rw [q2]; decide
  · exact ⟨_, _, _, _, _, (good_done (md := true) (lv := List.replicate 4 lf0) hx.st (by decide) hl wf0 (by decide) (show (1 : Int) = (ws0 4 1).bootS.ct.boots from rfl) (j := 0) (by decide) h0).2⟩
section
variable {s : WS} {o : Nat} {u : UInt8}
theorem shut_fit (h : ShutI s) : s.sd.snap.length = 760 ∧ s.sd.lasts.length = 760 := by
  have hg := isG_cases h.st.fit.g
  refine ⟨by rw [snap_lenS h.st.fit, h.n]; rfl, by rw [h.st.fit.sd.len, sizeG_pos h.st.fit.g, h.n]; rfl⟩
theorem shut_smash (h : ShutI s) : WSt true (s.smash (((384 + o : Nat) : Int), [u])) 51 := ⟨fit_smash h.st.fit _, h.st.cur, h.st.seq, h.st.dat, h.st.ct⟩
theorem shut_in (h : ShutI s) (ho : o < 32) : inB s.sd.lasts.length ((384 + o : Nat) : Int) ([u] : Bs).length = true := by
  rw [(shut_fit h).2]; simp [inB]; omega
/-- The turned leaf is refused. -/
theorem shut_1 (h : ShutI s) (ho : o < 32) (hu : s.sd.snap[384 + o]? ≠ some u) : ((s.smash (((384 + o : Nat) : Int), [u])).crash (keepF [])).bootS.loadE true = 3 := by
  obtain ⟨top, e, v, b, tg, G⟩ := h.g
  have hin := shut_in (u := u) h ho
  have h3 := (shut_smash (o := o) (u := u) h).crash (keepF [])
  have hfr := crash_free (s.smash (((384 + o : Nat) : Int), [u])) (keepF [])
  have hct := boot_ct hfr
  refine shut_load G (h.st.fit.mono (k' := 52) (by decide)) h.n h3.boot.fit (by decide) hfr.spend.g rfl rfl (by rw [hct]; show s.ct.value = 1; rw [h.ct]) (by rw [hct]; rfl) rfl (Pre.refl _) o ho u hu ?_
  rw [← smash_snap hin]
  show ((s.smash _).sd.settle (keepF [])).snap = _
  have hw : (s.smash (((384 + o : Nat) : Int), [u])).sd.waits = [] := by
    show (s.sd.smash _).waits = []
    rw [SdS.smash, if_pos hin]; rfl
  have hw' : (s.sd.smash (((384 + o : Nat) : Int), [u])).waits = [] := hw
  simp only [SdS.snap, SdS.settle, hw, hw']
  rfl
/-- The copy, laid back, is loaded. -/
theorem shut_2 (h : ShutI s) (ho : o < 32) : let s6 := ((s.smash (((384 + o : Nat) : Int), [u])).crash (keepF [])).bootS.loadS true
    WSt true s6 92 ∧ s6.dk.waits = [] ∧ s6.sd.lasts.length = 760 ∧ s6.ks.epochs.length < 2 ∧ ((s6.back s.sd.snap).crash (keepF [])).bootS.loadE true = 0 ∧ ((s6.back s.sd.snap).crash (keepF [])).bootS.loadL true = List.replicate 4 lf0 := by
  intro s6
  obtain ⟨top, e, v, b, tg, G⟩ := h.g
  have h3 := ((shut_smash (o := o) (u := u) h).crash (keepF [])).boot
  have hfr := crash_free (s.smash (((384 + o : Nat) : Int), [u])) (keepF [])
  have hct := boot_ct hfr
  have h6 : WSt true s6 92 := h3.load
  obtain ⟨e1, e2, e3, e4, e5, e6⟩ := loadS_sd true ((s.smash (((384 + o : Nat) : Int), [u])).crash (keepF [])).bootS
  have hn6 : s6.n = 4 := e2.trans h.n
  have hl6 : s6.sd.lasts.length = 760 := by rw [h6.fit.sd.len, sizeG_pos h6.fit.g, hn6]; rfl
  have hsl := (shut_fit h).1
  have hS : Pre s.S s6.S := loadS_S (md := true) ((s.smash (((384 + o : Nat) : Int), [u])).crash (keepF [])).bootS h3.fit
  have hdk : s6.dk.waits = [] := by rw [show s6.dk = _ from loadS_dk true _]; rfl
  have hks : s6.ks = s.ks := e5
  have h7 : WSt true (s6.back s.sd.snap) 92 := h6.back (by rw [hsl, hl6])
  have h8 := (h7.crash (keepF [])).boot
  have hf8 := crash_free (s6.back s.sd.snap) (keepF [])
  have hc8 := boot_ct hf8
  have hc6 : s6.ct = ⟨1, 2, 1⟩ := by rw [e4, hct]; show CtS.mk s.ct.value (s.ct.boots + 1) s.ct.at' = _; rw [h.ct]; rfl
  have hat : ((s6.back s.sd.snap).crash (keepF [])).bootS.ct = ⟨1, 3, 1⟩ := by rw [hc8]; show CtS.mk s6.ct.value (s6.ct.boots + 1) s6.ct.at' = _; rw [hc6]; rfl
  have hsd : ∀ p k, sub s.sd.snap p k = sub s.sd.snap p k → Kept ((s6.back s.sd.snap).crash (keepF [])).bootS.sd p k (sub s.sd.snap p k) := fun p k _ => ⟨rfl, fun w hw => by cases hw⟩
  have G8 : Good true ((s6.back s.sd.snap).crash (keepF [])).bootS (List.replicate 4 lf0) 1 top e v b tg := by
    refine G.to (hn6.trans h.n.symm) hks (by rw [hat, h.ct]) (by show openP true s6.L _ _ _ _ _ = _; rw [e6]; exact G.op) hS ?_ ?_
    · have := hsd (lfAt s.n (1 % 2) 0).toNat (32 * s.n.toNat) rfl
      rwa [G.kl.snap h.st.fit.sd] at this
    · have := hsd (recAt s.n 1).toNat 60 rfl
      rwa [G.kr.snap h.st.fit.sd] at this
  have G9 : Good true ((s6.back s.sd.snap).crash (keepF [])).bootS (List.replicate 4 lf0) ((s6.back s.sd.snap).crash (keepF [])).bootS.ct.value top e v b tg := by rw [hat]; exact G8
  have hL := G9.load h8.fit hf8.spend.g
  exact ⟨h6, hdk, hl6, by rw [hks]; exact h.ep, hL.1, hL.2⟩
end
end Go.Proofs.YtafkhpjnihnfpaaGreat


namespace Go.Proofs.YtafkhpjnihnfpaaGreat
open Go Go.Abs

theorem WN.nmB {md : Bool} {n : WN} {B id : Nat} (hi : ({ n with B := B } : WN).nm md id) : id = B ∨ n.nm md id := by
  rcases hi with hi | hi
  · rcases hi with hi | hi | hi | hi
    · exact .inr (.inl (.inl hi))
    · exact .inr (.inl (.inr (.inl hi)))
    · dsimp only at hi
      by_cases e : id = B
      · exact .inl e
      · exact .inr (.inl (.inr (.inr (.inl (by omega)))))
    · exact .inr (.inl (.inr (.inr (.inr hi))))
  · exact .inr (.inr hi)
set_option maxHeartbeats 8000000 in
theorem law29_PlayShut_ae (lba off : Int) (y : UInt8) (h : AHeap) : AE Tryz.prog 6 [.int .i64 lba, .int .i64 off, .int .u8 y.toNat] h (.bool true) h := by
  refine AE.pureW is_law29_PlayShut (by simp) ?_
  unfold c_law29_PlayShut
  (refine go ?_)
  (apply WL.orB; exact rfl; exact rfl; exact rfl; exact BP.of; intro hz1)
  · (repeat first | (apply GW.goS; exact Stp.auto) | apply GW.nil | exact rfl)
  (refine go ?_)
  (apply WL.orB; exact rfl; exact rfl; exact rfl; exact BP.of; intro hz2)
  · (repeat first | (apply GW.goS; exact Stp.auto) | apply GW.nil | exact rfl)
  (refine go ?_)
  (apply WL.orB; exact rfl; exact rfl; exact rfl; exact BP.of; intro hz3)
  · (repeat first | (apply GW.goS; exact Stp.auto) | apply GW.nil | exact rfl)
  (refine go ?_)
  (apply WL.orB; exact rfl; exact rfl; exact rfl; exact BP.of; intro hz4)
  · (repeat first | (apply GW.goS; exact Stp.auto) | apply GW.nil | exact rfl)
  (refine go ?_)
  (refine WW.ifB rfl (fun hz5 => ?_) (fun hz5 => ?_))
  · (refine go ?_)
    refine WW.ret (PureQ.finD ?_)
    exact fz_b rfl
  simp only [Bool.or_eq_false_iff, decide_eq_false_iff_not, beq_eq_false_iff_ne] at hz5
  have ho1 : 0 ≤ off ∧ off < 32 := by simp at hz5; omega
  have hy : y ≠ 0 := by
    intro e
    subst e
    simp at hz5
  obtain ⟨o, rfl⟩ : ∃ o : Nat, off = o := ⟨off.toNat, by omega⟩
  have ho : o < 32 := by omega
  clear hz5 ho1
  (refine go ?_)
  refine WL.callA rfl (by first | exact True.intro | exact rfl) gSL (play_New_ac true 4 rfl 1 h) ?_
  rintro _ h1 ⟨N, b, rfl, g1, b1, hn, hN, hb, ⟨hb1, hb2⟩, k1⟩
  have hw1 := g1.w.us (N.w.a + 10) (.inl (.inr (.inr (.inl (by omega)))))
  have hbg1 := b1.g
  simp only [boxO] at hbg1
  have hbl1 := b1.u.1
  (refine go ?_)
  refine WL.call rfl (by first | exact True.intro | exact rfl) gSL (box_World_ae hbg1 hw1) ?_
  (refine go ?_)
  refine WL.callA rfl (by first | exact True.intro | exact rfl) gSL (box_DoFlush_ac g1 caOk0 (by omega) rfl rfl b1) ?_
  rintro _ h2 ⟨n2, x2, e2, v2, rfl, _, ⟨rfl, rfl, rfl⟩, g2, mv2, k2⟩
  have I2 := shutI
  have hx1 := k1.next
  have hwn : ∀ id, n2.w.nm true id → h.next ≤ id := fun id hi => (mv2.w id hi).elim (hn id) (fun q => Nat.le_trans hx1 q)
  have hbn : ¬ n2.w.nm true b := fun hi => (mv2.w b hi).elim hb1 (fun q => by omega)
  have bx2 : BoxAt h2 b (boxO (n2.w.a + 10) (.ptr N.c 0 0) .nils) := by
    rw [mv2.a]
    exact b1.kp k2 (fun hh => hh.elim (fun q => hb1 (.inl (WN.own_all q))) hb2)
  have kA : Kp (fun id => h.next ≤ id) h h2 := k1.trans (k2.mono fun id _ hh => hh.elim (fun q => hn id (.inl (WN.own_all q))) (hN id))
  have gW := g2.w
  clear g1 g2 mv2 k1 k2 b1 hbg1 hw1 hn hN hb1 hb2 hbl1 hx1
  generalize n2.w = W at *
  generalize ((caNew (ws0 4 1) 4).com true).s = s2 at *
  generalize (caNew (ws0 4 1) 4).comE true = e2
  clear n2
  (refine go ?_)
  refine WL.callA rfl (by first | exact True.intro | exact rfl) gSL (box_DoSnap_ac gW I2.st (by omega) bx2) ?_
  rintro _ h3 ⟨rfl, bx3, k3⟩
  have gW3 := gW.kp k3 (fun id hi e => hbn (e ▸ hi))
  have kB : Kp (fun id => h.next ≤ id) h h3 := kA.trans (k3.mono fun id _ e => by omega)
  clear gW bx2 k3 kA
  have hw3 := gW3.us (W.a + 10) (.inl (.inr (.inr (.inl (by omega)))))
  have hbg3 := bx3.g
  simp only [boxO] at hbg3
  have hob := gW3.w.w
  simp only [wRow] at hob
  obtain ⟨hcl, hll⟩ := shut_fit I2
  (refine go ?_)
  refine WL.call rfl (by first | exact True.intro | exact rfl) gSL (box_World_ae hbg3 hw3) ?_
  (refine go ?_)
  refine WL.call rfl (by first | exact True.intro | exact rfl) gSL (snap_ae gW3 I2.st.fit (by omega)) ?_
  (repeat first | refine WW.seq ?_ | refine WW.reg ?_ | refine WL.nil ?_ | refine WW.skip ?_ | refine WW.block ?_ | refine thenN ?_ | refine blkN ?_); iterate 1 (refine WL.go ?_)
  (repeat first | refine WW.seq ?_ | refine WW.reg ?_ | refine WL.nil ?_ | refine WW.skip ?_ | refine WW.block ?_ | refine thenN ?_ | refine blkN ?_); iterate 2 (refine WL.go ?_)
  rw [show (384 + (o : Int)) = ((384 + o : Nat) : Int) by omega]
  (refine go ?_)
  (refine WW.ifB rfl (fun hz6 => ?_) (fun hz6 => ?_))
  · exfalso; rw [hcl] at hz6; exact hz6 rfl
  (refine go ?_)
  have hL : 384 + o < s2.sd.snap.length := by omega
  rw [xor_b8]
  have hu : s2.sd.snap[384 + o]? ≠ some (s2.sd.snap[384 + o] ^^^ y) := by
    rw [List.getElem?_eq_getElem hL]
    intro e
    exact hy (xorS8 (Option.some.inj e).symm)
  generalize s2.sd.snap[384 + o] ^^^ y = u at *
  have hE5 := shut_1 I2 ho hu
  obtain ⟨S6, hdk6, hll6, hep6, hE9, hL9⟩ := shut_2 (o := o) (u := u) I2 ho
  refine WL.callA rfl (by first | exact True.intro | exact rfl) gSL (box_DoSmash_ac gW3 I2.st (by omega) bx3 ((384 + o : Nat) : Int) [u] (by simp) (shut_in I2 ho)) ?_
  rintro _ h4 ⟨rfl, gW4, k4⟩
  have bx4 := bx3.kp k4 (fun q => hbn (.inl (WN.own_all q)))
  have kC : Kp (fun id => h.next ≤ id) h h4 := kB.trans (k4.mono fun id _ q => hwn id (.inl (WN.own_all q)))
  clear gW3 bx3 k4 kB hob hbg3 hw3
  (refine go ?_)
  refine WL.callA rfl (by first | exact True.intro | exact rfl) gSL (box_DoCrashE_ac gW4 (shut_smash I2) (by omega) I2.dk bx4 hbn (by rw [hE5]; decide)) ?_
  rintro _ h5 ⟨rfl, gW5, bx5, k5⟩
  rw [hE5]
  have kD : Kp (fun id => h.next ≤ id) h h5 := kC.trans (k5.mono fun id _ q => q.elim (fun q => hwn id (.inl (WN.own_all q))) (fun e => by omega))
  clear gW4 bx4 k5 kC hE5
  generalize ((s2.smash (((384 + o : Nat) : Int), [u])).crash (keepF [])).bootS.loadS true = s6 at *
  (refine go ?_)
  refine WL.named (fun h6 => WG true h6 W s6 ∧ BoxAt h6 b (boxO (W.a + 10) .nilp (.imm 1 [encR s2.sd.snap])) ∧ Kp (fun id => h.next ≤ id) h h6 ∧ BoxAt h6 h5.next (.mem 2 [[.int .i64 3, .nils]])) ⟨gW5.new (by repeat first | exact Kp.refl | assumption | with_reducible refine Kp.put ?_ (by omega) _ | with_reducible refine Kp.setN ?_ (by omega) _ | with_reducible refine Kp.keep ?_ _ | with_reducible refine Kp.setW ?_ (by rfl) _), bx5.kp (W := fun _ => False) (by repeat first | exact Kp.refl | assumption | with_reducible refine Kp.put ?_ (by omega) _ | with_reducible refine Kp.setN ?_ (by omega) _ | with_reducible refine Kp.keep ?_ _ | with_reducible refine Kp.setW ?_ (by rfl) _) (fun h => h), kD.trans (((by repeat first | exact Kp.refl | assumption | with_reducible refine Kp.put ?_ (by omega) _ | with_reducible refine Kp.setN ?_ (by omega) _ | with_reducible refine Kp.keep ?_ _ | with_reducible refine Kp.setW ?_ (by rfl) _) : Kp (fun _ => False) h5 _).mono fun _ _ h => h.elim), ⟨put_used_nm (x := .mem 2 [[.int .i64 0, .nils]]), gH⟩⟩ ?_
  have ht1 : ∀ id, W.nm true id → id < h5.next := fun id hi => (gW5.us _ hi).1
  have hbt1 := bx5.u.1
  have hn5 := kD.next
  generalize h5.next = t1 at *
  clear gW5 bx5 kD
  rintro h6 ⟨gW6, bx6, kE, T1⟩
  refine WL.call rfl (by first | exact True.intro | exact rfl) gSL (box_DoCallN_ae bx6 1 lba) ?_
  (refine go ?_)
  refine WL.named (fun h7 => WG true h7 W s6 ∧ BoxAt h7 b (boxO (W.a + 10) .nilp (.imm 1 [encR s2.sd.snap])) ∧ Kp (fun id => h.next ≤ id) h h7 ∧ BoxAt h7 t1 (.mem 2 [[.int .i64 3, .nils]]) ∧ BoxAt h7 h6.next (.mem 2 [[.int .i64 8, .nils]])) ⟨gW6.new (by repeat first | exact Kp.refl | assumption | with_reducible refine Kp.put ?_ (by omega) _ | with_reducible refine Kp.setN ?_ (by omega) _ | with_reducible refine Kp.keep ?_ _ | with_reducible refine Kp.setW ?_ (by rfl) _), bx6.kp (W := fun _ => False) (by repeat first | exact Kp.refl | assumption | with_reducible refine Kp.put ?_ (by omega) _ | with_reducible refine Kp.setN ?_ (by omega) _ | with_reducible refine Kp.keep ?_ _ | with_reducible refine Kp.setW ?_ (by rfl) _) (fun h => h), kE.trans (((by repeat first | exact Kp.refl | assumption | with_reducible refine Kp.put ?_ (by omega) _ | with_reducible refine Kp.setN ?_ (by omega) _ | with_reducible refine Kp.keep ?_ _ | with_reducible refine Kp.setW ?_ (by rfl) _) : Kp (fun _ => False) h6 _).mono fun _ _ h => h.elim), T1.kp (W := fun _ => False) (by repeat first | exact Kp.refl | assumption | with_reducible refine Kp.put ?_ (by omega) _ | with_reducible refine Kp.setN ?_ (by omega) _ | with_reducible refine Kp.keep ?_ _ | with_reducible refine Kp.setW ?_ (by rfl) _) (fun h => h), ⟨put_used_nm (x := .mem 2 [[.int .i64 0, .nils]]), gH⟩⟩ ?_
  have ht2 : ∀ id, W.nm true id → id < h6.next := fun id hi => (gW6.us _ hi).1
  have hbt2 := bx6.u.1
  have ht12 := T1.u.1
  generalize h6.next = t2 at *
  clear gW6 bx6 kE T1
  rintro h7 ⟨gW7, bx7, kF, T1, T2⟩
  have hbg7 := bx7.g
  simp only [boxO] at hbg7
  refine WL.call rfl (by first | exact True.intro | exact rfl) gSL (box_CacheZ_ae hbg7) ?_
  (refine go ?_)
  refine WL.callA rfl (by first | exact True.intro | exact rfl) gSL (box_DoBack_ac gW7 S6 bx7 (by rw [hcl, hll6])) ?_
  rintro _ h8 ⟨rfl, B, hB, gW8, k8⟩
  have hn7 := kF.next
  have hbt7 := bx7.u.1
  have ht17 := T1.u.1
  have ht27 := T2.u.1
  have bx8 := bx7.kp k8 (fun q => hbn (.inl (WN.own_all q)))
  have T1' := T1.kp k8 (fun q => by have := ht1 _ (.inl (WN.own_all q)); omega)
  have T2' := T2.kp k8 (fun q => by have := ht2 _ (.inl (WN.own_all q)); omega)
  have kG : Kp (fun id => h.next ≤ id) h h8 := kF.trans (k8.mono fun id _ q => hwn id (.inl (WN.own_all q)))
  have hnm8 : ∀ id, ({ W with B := B } : WN).nm true id → id ≠ b ∧ id ≠ t1 ∧ id ≠ t2 ∧ h.next ≤ id := fun id hi => by
    rcases WN.nmB hi with rfl | q
    · omega
    · have := ht1 _ q
      have := ht2 _ q
      have := hwn _ q
      exact ⟨fun e => hbn (e ▸ q), by omega, by omega, this⟩
  have bx8' : BoxAt h8 b (boxO (({ W with B := B } : WN).a + 10) .nilp (.imm 1 [encR s2.sd.snap])) := bx8
  generalize ({ W with B := B } : WN) = W8 at *
  clear gW7 bx7 bx8 k8 kF T1 T2 hbg7 hB ht1 ht2 hwn hbn
  (refine go ?_)
  refine WL.callA rfl (by first | exact True.intro | exact rfl) gSL (box_DoCrashL_ac gW8 (S6.back (by rw [hcl, hll6])) (by omega) hdk6 bx8' (fun hi => (hnm8 _ hi).1 rfl) hE9 hep6 (fun x hx => by rw [hL9] at hx; rw [List.eq_of_mem_replicate hx]; rfl) (by rw [hL9]; simp)) ?_
  rintro _ h9 ⟨rfl, N9, hN9, g9, hf9, bx9, k9⟩
  have T1 := T1'.kp k9 (fun q => q.elim (fun q => (hnm8 _ (.inl (WN.own_all q))).2.1 rfl) (fun e => by omega))
  have T2 := T2'.kp k9 (fun q => q.elim (fun q => (hnm8 _ (.inl (WN.own_all q))).2.2.1 rfl) (fun e => by omega))
  have kH : Kp (fun id => h.next ≤ id) h h9 := kG.trans (k9.mono fun id _ q => q.elim (fun q => (hnm8 _ (.inl (WN.own_all q))).2.2.2) (fun e => by omega))
  obtain ⟨_, _, ⟨v9, _, c9⟩, _⟩ := g9
  clear gW8 bx8' k9 kG T1' T2' hE9 hL9
  (refine go ?_)
  refine WL.named (fun h10 => BoxAt h10 b (boxO (W8.a + 10) (.ptr N9.c 0 0) (.imm 1 [encR s2.sd.snap])) ∧ Kp (fun id => h.next ≤ id) h h10 ∧ BoxAt h10 t1 (.mem 2 [[.int .i64 3, .nils]]) ∧ BoxAt h10 t2 (.mem 2 [[.int .i64 8, .nils]]) ∧ BoxAt h10 h9.next (.mem 2 [[.int .i64 0, .nils]]) ∧ h10.used N9.c) ⟨bx9.kp (W := fun _ => False) (by repeat first | exact Kp.refl | assumption | with_reducible refine Kp.put ?_ (by omega) _ | with_reducible refine Kp.setN ?_ (by omega) _ | with_reducible refine Kp.keep ?_ _ | with_reducible refine Kp.setW ?_ (by rfl) _) (fun h => h), kH.trans (((by repeat first | exact Kp.refl | assumption | with_reducible refine Kp.put ?_ (by omega) _ | with_reducible refine Kp.setN ?_ (by omega) _ | with_reducible refine Kp.keep ?_ _ | with_reducible refine Kp.setW ?_ (by rfl) _) : Kp (fun _ => False) h9 _).mono fun _ _ h => h.elim), T1.kp (W := fun _ => False) (by repeat first | exact Kp.refl | assumption | with_reducible refine Kp.put ?_ (by omega) _ | with_reducible refine Kp.setN ?_ (by omega) _ | with_reducible refine Kp.keep ?_ _ | with_reducible refine Kp.setW ?_ (by rfl) _) (fun h => h), T2.kp (W := fun _ => False) (by repeat first | exact Kp.refl | assumption | with_reducible refine Kp.put ?_ (by omega) _ | with_reducible refine Kp.setN ?_ (by omega) _ | with_reducible refine Kp.keep ?_ _ | with_reducible refine Kp.setW ?_ (by rfl) _) (fun h => h), ⟨put_used_nm (x := .mem 2 [[.int .i64 0, .nils]]), gH⟩, (c9.kp (W := fun _ => False) (by repeat first | exact Kp.refl | assumption | with_reducible refine Kp.put ?_ (by omega) _ | with_reducible refine Kp.setN ?_ (by omega) _ | with_reducible refine Kp.keep ?_ _ | with_reducible refine Kp.setW ?_ (by rfl) _) (fun h => h)).u⟩ ?_
  have hbt3 := bx9.u.1
  generalize h9.next = t3 at *
  clear bx9 kH T1 T2 c9
  rintro h10 ⟨bx10, kI, T1, T2, T3, hc10⟩
  have hbg := bx10.g
  simp only [boxO] at hbg
  have q1 := T1.g
  have q2 := T2.g
  have q3 := T3.g
  (refine go ?_)
  refine WL.call rfl (by first | exact True.intro | exact rfl) gSL (box_Cache_ae hbg hc10) ?_
  (refine go ?_)
  refine WL.call rfl (by first | exact True.intro | exact rfl) gSL (law29_known_ae _) ?_
  (refine go ?_)
  have k10 := kI.keeps (fun _ h => h)
  refine WW.ret (PureQ.finD ?_)
  exact fz_b rfl
theorem top_PlayShut (c0 : List AV) (t0 : TypL [.i .i64] c0) (c1 : List AV) (t1 : TypL [.i .i64] c1) (c2 : List AV) (t2 : TypL [.i .u8] c2) : AE Tryz.prog 6 [c0.headD .nilp, c1.headD .nilp, c2.headD .nilp] noHeap (.bool true) noHeap := by
  obtain ⟨a, rfl, _⟩ := int_of t0
  obtain ⟨b, rfl, _⟩ := int_of t1
  obtain ⟨c, rfl⟩ := byte_of t2
  exact law29_PlayShut_ae a b c noHeap
end Go.Proofs.YtafkhpjnihnfpaaGreat



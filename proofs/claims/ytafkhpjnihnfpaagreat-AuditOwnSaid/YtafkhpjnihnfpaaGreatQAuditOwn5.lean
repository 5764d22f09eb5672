/- What the statement's proof needs, part 5. -/
import Derived.Test.YtafkhpjnihnfpaaGreatQAuditOwn4
set_option linter.all false
set_option maxRecDepth 100000
namespace Go.Proofs.YtafkhpjnihnfpaaGreat
open Go Go.Abs

def c_law30_AuditOwn : CC := .seq (.reg [⟨some 2, .mov (.c (.bool false)), none⟩]) (.seq (.seq (.reg [⟨some 7, .mov (.t 0), none⟩, ⟨some 8, .bin .lss (.t 7) (.c (.int .i64 0)), none⟩, ⟨some 9, .mov (.t 8), none⟩, ⟨some 10, .mov (.t 0), some (9, false)⟩, ⟨some 11, .bin .geq (.t 10) (.c (.int .i64 32)), some (9, false)⟩, ⟨some 12, .pick (.t 9) (.c (.bool true)) (.t 11), none⟩]) (.cond (.t 12) (.seq (.reg [⟨some 2, .mov (.c (.bool true)), none⟩]) .ret) .skip)) (.seq (.reg [⟨some 14, .call 12 [.c (.int .i64 4), .c (.int .u64 1), .c (.bool true)], none⟩, ⟨some 13, .mov (.t 14), none⟩, ⟨some 15, .ext 0 (.t 13), none⟩, ⟨some 16, .ext 1 (.t 13), none⟩, ⟨some 3, .mov (.t 15), none⟩, ⟨some 4, .mov (.t 16), none⟩]) (.seq (.seq (.reg [⟨some 17, .mov (.t 3), none⟩, ⟨some 18, .eqv .p false (.t 17) (.c .nilp), none⟩]) (.cond (.t 18) (.seq (.reg [⟨some 2, .mov (.c (.bool false)), none⟩]) .ret) .skip)) (.seq (.reg [⟨some 19, .mov (.t 3), none⟩, ⟨some 20, .mov (.t 0), none⟩, ⟨some 21, .mksl 1 [.int .u8 0] 1 (.c (.int .i64 32)) (.c (.int .i64 32)), none⟩, ⟨some 22, .build [.int .i64 0, .int .i64 0, .nils] [(0, 1, .c (.int .i64 2)), (1, 1, .t 20), (2, 1, .t 21)], none⟩, ⟨some 23, .build [.int .i64 0, .int .i64 0, .int .i64 0, .nils, .int .i64 0, .int .i64 0, .nils, .nils] [(0, 1, .c (.int .i64 1)), (1, 3, .t 22)], none⟩, ⟨some 24, .call 13 [.t 19, .t 23], none⟩]) (.seq (.reg [⟨some 25, .mov (.t 3), none⟩, ⟨some 26, .call 16 [.t 25], none⟩, ⟨some 27, .call 19 [.t 26], none⟩, ⟨some 5, .mov (.t 27), none⟩]) (.seq (.seq (.reg [⟨some 28, .mov (.t 5), none⟩, ⟨some 29, .len (.t 28), none⟩, ⟨some 30, .bin .neq (.t 29) (.c (.int .i64 1)), none⟩, ⟨some 31, .mov (.t 30), none⟩, ⟨some 32, .mov (.t 5), some (31, false)⟩, ⟨some 33, .iaddr 1 (.t 32) (.c (.int .i64 0)), some (31, false)⟩, ⟨some 34, .load 1 false (.t 33), some (31, false)⟩, ⟨some 35, .len (.t 34), some (31, false)⟩, ⟨some 36, .bin .neq (.t 35) (.c (.int .i64 32)), some (31, false)⟩, ⟨some 37, .pick (.t 31) (.c (.bool true)) (.t 36), none⟩]) (.cond (.t 37) (.seq (.reg [⟨some 2, .mov (.c (.bool false)), none⟩]) .ret) .skip)) (.seq (.reg [⟨some 38, .mov (.t 5), none⟩, ⟨some 39, .iaddr 1 (.t 38) (.c (.int .i64 0)), none⟩, ⟨some 40, .load 1 false (.t 39), none⟩, ⟨some 41, .iaddr 1 (.t 40) (.c (.int .i64 3)), none⟩, ⟨some 42, .load 1 false (.t 41), none⟩, ⟨some 43, .bin .xor (.t 42) (.c (.int .u8 255)), none⟩, ⟨some 44, .iaddr 1 (.t 40) (.c (.int .i64 3)), none⟩, ⟨none, .store 1 (.t 44) (.t 43), none⟩]) (.seq (.reg [⟨some 45, .mov (.t 3), none⟩, ⟨some 46, .call 16 [.t 45], none⟩, ⟨some 47, .call 19 [.t 46], none⟩, ⟨some 6, .mov (.t 47), none⟩]) (.seq (.dreg [⟨some 48, .mov (.t 6), none⟩, ⟨some 49, .len (.t 48), none⟩, ⟨some 50, .bin .eql (.t 49) (.c (.int .i64 1)), none⟩, ⟨some 51, .mov (.t 50), none⟩, ⟨some 52, .mov (.t 6), some (51, true)⟩, ⟨some 53, .iaddr 1 (.t 52) (.c (.int .i64 0)), some (51, true)⟩, ⟨some 54, .load 1 false (.t 53), some (51, true)⟩, ⟨some 55, .b2s (.t 54), some (51, true)⟩, ⟨some 56, .mksl 1 [.int .u8 0] 1 (.c (.int .i64 32)) (.c (.int .i64 32)), some (51, true)⟩, ⟨some 57, .b2s (.t 56), some (51, true)⟩, ⟨some 58, .eqv .s false (.t 55) (.t 57), some (51, true)⟩, ⟨some 59, .pick (.t 51) (.t 58) (.c (.bool false)), none⟩, ⟨some 60, .mov (.t 59), none⟩, ⟨some 61, .call 11 [], some (60, true)⟩, ⟨some 62, .pick (.t 60) (.t 61) (.c (.bool false)), none⟩, ⟨some 2, .mov (.t 62), none⟩] [[], [0], [1], [2], [3], [4, 3], [5, 3], [6, 3], [3], [8, 3], [7, 9, 3], [3, 10], [11, 3], [12, 12], [12, 13], [14, 13, 0, 1, 2, 3, 4, 5, 6, 7, 8, 9, 10, 11, 12, 13, 14]]) .ret)))))))))
theorem is_law30_AuditOwn : FnIs Tryz.prog 8 63 c_law30_AuditOwn [.t 2] := ⟨Tryz.f8, _, Tryz.func8, rfl, rfl, by kernel_rfl, by kernel_rfl⟩

def c_law30_known : CC := .seq (.reg [⟨some 0, .mov (.c (.bool false)), none⟩]) (.seq (.reg [⟨some 4, .call 12 [.c (.int .i64 4), .c (.int .u64 1), .c (.bool true)], none⟩, ⟨some 3, .mov (.t 4), none⟩, ⟨some 5, .ext 0 (.t 3), none⟩, ⟨some 6, .ext 1 (.t 3), none⟩, ⟨some 1, .mov (.t 5), none⟩, ⟨some 2, .mov (.t 6), none⟩]) (.seq (.reg [⟨some 7, .mov (.t 1), none⟩, ⟨some 8, .eqv .p true (.t 7) (.c .nilp), none⟩, ⟨some 9, .mov (.t 8), none⟩, ⟨some 10, .mov (.t 1), some (9, true)⟩, ⟨some 11, .call 16 [.t 10], some (9, true)⟩, ⟨some 12, .call 19 [.t 11], some (9, true)⟩, ⟨some 13, .len (.t 12), some (9, true)⟩, ⟨some 14, .bin .eql (.t 13) (.c (.int .i64 0)), some (9, true)⟩, ⟨some 15, .pick (.t 9) (.t 14) (.c (.bool false)), none⟩, ⟨some 16, .mov (.t 15), none⟩, ⟨some 17, .mov (.t 1), some (16, true)⟩, ⟨some 18, .call 16 [.t 17], some (16, true)⟩, ⟨some 19, .call 23 [.t 18], some (16, true)⟩, ⟨some 20, .pick (.t 16) (.t 19) (.c (.bool false)), none⟩, ⟨some 21, .mov (.t 20), none⟩, ⟨some 22, .mov (.t 1), some (21, true)⟩, ⟨some 23, .call 17 [.t 22], some (21, true)⟩, ⟨some 24, .call 24 [.t 23], some (21, true)⟩, ⟨some 25, .pick (.t 21) (.t 24) (.c (.bool false)), none⟩, ⟨some 26, .mov (.t 25), none⟩, ⟨some 27, .call 24 [.c .nilp], some (26, true)⟩, ⟨some 28, .pick (.t 26) (.t 27) (.c (.bool false)), none⟩, ⟨some 29, .mov (.t 28), none⟩, ⟨some 30, .call 23 [.c .nilp], some (29, true)⟩, ⟨some 31, .pick (.t 29) (.t 30) (.c (.bool false)), none⟩, ⟨some 32, .mov (.t 31), none⟩, ⟨some 33, .call 19 [.c .nilp], some (32, true)⟩, ⟨some 34, .len (.t 33), some (32, true)⟩, ⟨some 35, .bin .eql (.t 34) (.c (.int .i64 0)), some (32, true)⟩, ⟨some 36, .pick (.t 32) (.t 35) (.c (.bool false)), none⟩, ⟨some 0, .mov (.t 36), none⟩]) .ret))
theorem is_law30_known : FnIs Tryz.prog 11 37 c_law30_known [.t 0] := ⟨Tryz.f11, _, Tryz.func11, rfl, rfl, by kernel_rfl, by kernel_rfl⟩

def c_play_New : CC := .seq (.reg [⟨some 6, .mov (.c .nilp), none⟩, ⟨some 7, .mov (.c (.int .i64 0)), none⟩]) (.seq (.reg [⟨some 12, .mov (.t 0), none⟩, ⟨some 13, .mov (.t 1), none⟩, ⟨some 14, .mov (.t 2), none⟩, ⟨some 15, .call 25 [.t 12, .t 13, .t 14], none⟩, ⟨some 11, .mov (.t 15), none⟩, ⟨some 16, .ext 0 (.t 11), none⟩, ⟨some 17, .ext 1 (.t 11), none⟩, ⟨some 8, .mov (.t 16), none⟩, ⟨some 9, .mov (.t 17), none⟩]) (.seq (.seq (.reg [⟨some 18, .mov (.t 9), none⟩, ⟨some 19, .bin .neq (.t 18) (.c (.int .i64 0)), none⟩]) (.cond (.t 19) (.seq (.reg [⟨some 20, .mov (.t 9), none⟩, ⟨some 6, .mov (.c .nilp), none⟩, ⟨some 7, .mov (.t 20), none⟩]) .ret) .skip)) (.seq (.reg [⟨some 22, .mov (.t 8), none⟩, ⟨some 23, .call 26 [.t 22], none⟩, ⟨some 21, .mov (.t 23), none⟩, ⟨some 24, .ext 0 (.t 21), none⟩, ⟨some 25, .ext 1 (.t 21), none⟩, ⟨some 10, .mov (.t 24), none⟩, ⟨some 9, .mov (.t 25), none⟩]) (.seq (.seq (.reg [⟨some 26, .mov (.t 9), none⟩, ⟨some 27, .bin .neq (.t 26) (.c (.int .i64 0)), none⟩]) (.cond (.t 27) (.seq (.reg [⟨some 28, .mov (.t 9), none⟩, ⟨some 6, .mov (.c .nilp), none⟩, ⟨some 7, .mov (.t 28), none⟩]) .ret) .skip)) (.seq (.reg [⟨some 29, .mov (.t 8), none⟩, ⟨some 30, .mov (.t 10), none⟩, ⟨some 31, .build [.nilp, .nilp, .nils] [(0, 1, .t 29), (1, 1, .t 30)], none⟩, ⟨some 32, .box 3 (.t 31), none⟩, ⟨some 6, .mov (.t 32), none⟩, ⟨some 7, .mov (.c (.int .i64 0)), none⟩]) .ret)))))
theorem is_play_New : FnIs Tryz.prog 12 33 c_play_New [.t 6, .t 7] := ⟨Tryz.f12, _, Tryz.func12, rfl, rfl, by kernel_rfl, by kernel_rfl⟩

def c_play_Box_Do : CC := .seq (.reg [⟨some 3, .box 8 (.t 1), none⟩, ⟨some 4, .alloc [.int .i64 0, .nils], none⟩]) (.seq (.seq (.reg [⟨some 5, .mov (.t 0), none⟩, ⟨some 6, .eqv .p false (.t 5) (.c .nilp), none⟩]) (.cond (.t 6) (.seq (.reg [⟨some 7, .build [.int .i64 0, .nils] [(0, 1, .c (.int .i64 1))], none⟩, ⟨none, .store 2 (.t 4) (.t 7), none⟩]) .ret) .skip)) (.seq (.seq (.reg [⟨some 8, .faddr 0 (.t 3), none⟩, ⟨some 9, .load 1 false (.t 8), none⟩]) (.block 0 (.seq (.reg [⟨some 12, .bin .eql (.t 9) (.c (.int .i64 1)), none⟩, ⟨some 11, .mov (.t 12), none⟩]) (.cond (.t 11) (.seq (.reg [⟨some 13, .mov (.t 0), none⟩, ⟨some 14, .faddr 1 (.t 3), none⟩, ⟨some 15, .load 3 true (.t 14), none⟩, ⟨some 16, .call 27 [.t 13, .t 15], none⟩, ⟨none, .store 2 (.t 4) (.t 16), none⟩]) .ret) (.seq (.reg [⟨some 18, .bin .eql (.t 9) (.c (.int .i64 2)), none⟩, ⟨some 17, .mov (.t 18), none⟩]) (.cond (.t 17) (.dreg [⟨some 19, .mov (.t 0), none⟩, ⟨some 20, .nilck (.t 19), none⟩, ⟨some 21, .faddr 0 (.t 20), none⟩, ⟨some 22, .load 1 false (.t 21), none⟩, ⟨some 23, .nilck (.t 22), none⟩, ⟨some 24, .faddr 1 (.t 23), none⟩, ⟨some 25, .load 1 false (.t 24), none⟩, ⟨some 26, .faddr 4 (.t 3), none⟩, ⟨some 27, .load 1 false (.t 26), none⟩, ⟨some 28, .call 28 [.t 25, .t 27], none⟩] [[], [0], [1], [2], [3], [4], [5], [], [7], [6, 8]]) (.seq (.reg [⟨some 30, .bin .eql (.t 9) (.c (.int .i64 3)), none⟩, ⟨some 29, .mov (.t 30), none⟩]) (.cond (.t 29) (.seq (.reg [⟨some 31, .mov (.t 0), none⟩, ⟨some 32, .faddr 7 (.t 3), none⟩, ⟨some 33, .load 1 false (.t 32), none⟩, ⟨some 34, .call 29 [.t 31, .t 33], none⟩, ⟨some 35, .build [.int .i64 0, .nils] [(0, 1, .t 34)], none⟩, ⟨none, .store 2 (.t 4) (.t 35), none⟩]) .ret) (.seq (.reg [⟨some 37, .bin .eql (.t 9) (.c (.int .i64 4)), none⟩, ⟨some 36, .mov (.t 37), none⟩]) (.cond (.t 36) (.seq (.dreg [⟨some 38, .mov (.t 0), none⟩, ⟨some 39, .nilck (.t 38), none⟩, ⟨some 40, .faddr 0 (.t 39), none⟩, ⟨some 41, .load 1 false (.t 40), none⟩, ⟨some 42, .nilck (.t 41), none⟩, ⟨some 43, .faddr 2 (.t 42), none⟩, ⟨some 44, .load 1 false (.t 43), none⟩, ⟨some 45, .faddr 5 (.t 3), none⟩, ⟨some 46, .load 1 false (.t 45), none⟩, ⟨some 47, .faddr 6 (.t 3), none⟩, ⟨some 48, .load 1 false (.t 47), none⟩, ⟨some 49, .call 30 [.t 44, .t 46, .t 48], none⟩, ⟨some 50, .not (.t 49), none⟩] [[], [0], [1], [2], [3], [4], [5], [], [7], [], [9], [6, 8, 10], [11]]) (.cond (.t 50) (.seq (.reg [⟨some 51, .build [.int .i64 0, .nils] [(0, 1, .c (.int .i64 1))], none⟩, ⟨none, .store 2 (.t 4) (.t 51), none⟩]) .ret) .skip)) (.seq (.reg [⟨some 53, .bin .eql (.t 9) (.c (.int .i64 5)), none⟩, ⟨some 52, .mov (.t 53), none⟩]) (.cond (.t 52) (.dreg [⟨some 54, .mov (.t 0), none⟩, ⟨some 55, .mov (.t 0), none⟩, ⟨some 56, .nilck (.t 55), none⟩, ⟨some 57, .faddr 2 (.t 56), none⟩, ⟨some 58, .load 1 false (.t 57), none⟩, ⟨some 59, .mov (.t 0), none⟩, ⟨some 60, .nilck (.t 59), none⟩, ⟨some 61, .faddr 0 (.t 60), none⟩, ⟨some 62, .load 1 false (.t 61), none⟩, ⟨some 63, .nilck (.t 62), none⟩, ⟨some 64, .faddr 2 (.t 63), none⟩, ⟨some 65, .load 1 false (.t 64), none⟩, ⟨some 66, .call 18 [.t 65], none⟩, ⟨some 67, .bsl 1 [.t 66], none⟩, ⟨some 68, .app 1 24 (.t 58) (.t 67), none⟩, ⟨some 69, .nilck (.t 54), none⟩, ⟨some 70, .faddr 2 (.t 69), none⟩, ⟨none, .store 1 (.t 70) (.t 68), none⟩] [[], [], [1], [2], [3], [], [5], [6], [7], [8], [9], [10], [11], [12], [4, 13, 12], [0, 0, 1, 2, 3, 4, 5, 6, 7, 8, 9, 10, 11, 12, 13, 14], [15, 0, 1, 2, 3, 4, 5, 6, 7, 8, 9, 10, 11, 12, 13, 14], [16, 14, 14, 0, 1, 2, 3, 4, 5, 6, 7, 8, 9, 10, 11, 12, 13, 14]]) (.seq (.reg [⟨some 72, .bin .eql (.t 9) (.c (.int .i64 6)), none⟩, ⟨some 71, .mov (.t 72), none⟩]) (.cond (.t 71) (.seq (.reg [⟨some 73, .mov (.t 0), none⟩, ⟨some 74, .faddr 4 (.t 3), none⟩, ⟨some 75, .load 1 false (.t 74), none⟩, ⟨some 76, .call 31 [.t 73, .t 75], none⟩, ⟨some 77, .build [.int .i64 0, .nils] [(0, 1, .t 76)], none⟩, ⟨none, .store 2 (.t 4) (.t 77), none⟩]) .ret) (.seq (.reg [⟨some 79, .bin .eql (.t 9) (.c (.int .i64 7)), none⟩, ⟨some 78, .mov (.t 79), none⟩]) (.cond (.t 78) (.dreg [⟨some 80, .mov (.t 0), none⟩, ⟨some 81, .nilck (.t 80), none⟩, ⟨some 82, .faddr 0 (.t 81), none⟩, ⟨some 83, .load 1 false (.t 82), none⟩, ⟨some 84, .nilck (.t 83), none⟩, ⟨some 85, .faddr 3 (.t 84), none⟩, ⟨some 86, .load 1 false (.t 85), none⟩, ⟨some 87, .faddr 4 (.t 3), none⟩, ⟨some 88, .load 1 false (.t 87), none⟩, ⟨some 89, .bin .neq (.t 88) (.c (.int .i64 0)), none⟩, ⟨some 90, .call 32 [.t 86, .t 89], none⟩] [[], [0], [1], [2], [3], [4], [5], [], [7], [8], [6, 9]]) (.seq (.reg [⟨some 10, .build [.int .i64 0, .nils] [(0, 1, .c (.int .i64 1))], none⟩, ⟨none, .store 2 (.t 4) (.t 10), none⟩]) .ret))))))))))))))))) (.seq (.reg [⟨some 91, .build [.int .i64 0, .nils] [], none⟩, ⟨none, .store 2 (.t 4) (.t 91), none⟩]) .ret)))
theorem is_play_Box_Do : FnIs Tryz.prog 13 92 c_play_Box_Do [.cell 4 2 true] := ⟨Tryz.f13, _, Tryz.func13, rfl, rfl, by kernel_rfl, by kernel_rfl⟩

def c_play_Box_World : CC := .seq (.reg [⟨some 2, .mov (.c .nilp), none⟩]) (.seq (.seq (.reg [⟨some 3, .mov (.t 0), none⟩, ⟨some 4, .eqv .p false (.t 3) (.c .nilp), none⟩]) (.cond (.t 4) (.seq (.reg [⟨some 2, .mov (.c .nilp), none⟩]) .ret) .skip)) (.seq (.reg [⟨some 5, .mov (.t 0), none⟩, ⟨some 6, .nilck (.t 5), none⟩, ⟨some 7, .faddr 0 (.t 6), none⟩, ⟨some 8, .load 1 false (.t 7), none⟩, ⟨some 2, .mov (.t 8), none⟩]) .ret))
theorem is_play_Box_World : FnIs Tryz.prog 16 9 c_play_Box_World [.t 2] := ⟨Tryz.f16, _, Tryz.func16, rfl, rfl, by kernel_rfl, by kernel_rfl⟩

def c_play_Box_Cache : CC := .seq (.reg [⟨some 2, .mov (.c .nilp), none⟩]) (.seq (.seq (.reg [⟨some 3, .mov (.t 0), none⟩, ⟨some 4, .eqv .p false (.t 3) (.c .nilp), none⟩]) (.cond (.t 4) (.seq (.reg [⟨some 2, .mov (.c .nilp), none⟩]) .ret) .skip)) (.seq (.reg [⟨some 5, .mov (.t 0), none⟩, ⟨some 6, .nilck (.t 5), none⟩, ⟨some 7, .faddr 1 (.t 6), none⟩, ⟨some 8, .load 1 false (.t 7), none⟩, ⟨some 2, .mov (.t 8), none⟩]) .ret))
theorem is_play_Box_Cache : FnIs Tryz.prog 17 9 c_play_Box_Cache [.t 2] := ⟨Tryz.f17, _, Tryz.func17, rfl, rfl, by kernel_rfl, by kernel_rfl⟩

def c_audit_Secrets : CC := .seq (.reg [⟨some 2, .mov (.c .nils), none⟩]) (.seq (.seq (.reg [⟨some 8, .mov (.t 0), none⟩, ⟨some 9, .eqv .p false (.t 8) (.c .nilp), none⟩]) (.cond (.t 9) (.seq (.reg [⟨some 2, .mov (.c .nils), none⟩]) .ret) .skip)) (.seq (.reg [⟨some 3, .mov (.c .nils), none⟩]) (.seq (.seq (.reg [⟨some 10, .mov (.t 0), none⟩, ⟨some 11, .nilck (.t 10), none⟩, ⟨some 12, .faddr 6 (.t 11), none⟩, ⟨some 13, .load 1 false (.t 12), none⟩, ⟨some 14, .call 34 [.t 13], none⟩, ⟨some 15, .len (.t 14), none⟩, ⟨some 16, .mov (.c (.int .i64 0)), none⟩]) (.block 0 (.loop (.seq (.reg [⟨some 17, .bin .lss (.t 16) (.t 15), none⟩]) (.seq (.cond (.t 17) .skip (.exit 0)) (.seq (.block 1 (.seq (.reg [⟨some 18, .iaddr 10 (.t 14) (.t 16), none⟩, ⟨some 19, .load 10 true (.t 18), none⟩, ⟨some 5, .alloc [.int .u64 0, .int .u64 0, .int .u32 0, .int .u32 0, .int .u64 0, .nils, .nils, .nils, .int .u64 0, .int .u64 0], none⟩, ⟨none, .store 10 (.t 5) (.t 19), none⟩]) (.seq (.dreg [⟨some 21, .mov (.t 0), none⟩, ⟨some 22, .nilck (.t 21), none⟩, ⟨some 23, .faddr 5 (.t 22), none⟩, ⟨some 24, .load 1 false (.t 23), none⟩, ⟨some 25, .faddr 2 (.t 5), none⟩, ⟨some 26, .faddr 0 (.t 25), none⟩, ⟨some 27, .load 1 false (.t 26), none⟩, ⟨some 28, .call 35 [.t 24, .t 27], none⟩, ⟨some 20, .mov (.t 28), none⟩, ⟨some 29, .ext 0 (.t 20), none⟩, ⟨some 30, .ext 1 (.t 20), none⟩, ⟨some 6, .alloc [.int .u64 0, .int .u64 0], none⟩, ⟨none, .store 2 (.t 6) (.t 29), none⟩, ⟨some 7, .mov (.t 30), none⟩] [[], [0], [1], [2], [], [4], [5], [3, 6], [7], [8], [8], [], [11, 9, 7, 0, 1, 2, 3, 4, 5, 6, 7, 8, 9, 11], [10, 12, 0, 1, 2, 3, 4, 5, 6, 7, 8, 9, 10, 11, 12]]) (.seq (.reg [⟨some 31, .mov (.t 7), none⟩, ⟨some 32, .mov (.t 31), none⟩, ⟨some 33, .faddr 2 (.t 5), some (32, true)⟩, ⟨some 34, .faddr 1 (.t 33), some (32, true)⟩, ⟨some 35, .load 1 false (.t 34), some (32, true)⟩, ⟨some 36, .bin .neq (.t 35) (.c (.int .u32 65535)), some (32, true)⟩, ⟨some 37, .pick (.t 32) (.t 36) (.c (.bool false)), none⟩]) (.cond (.t 37) (.reg [⟨some 38, .mov (.t 3), none⟩, ⟨some 39, .faddr 6 (.t 5), none⟩, ⟨some 40, .load 1 false (.t 39), none⟩, ⟨some 41, .bsl 1 [.t 40], none⟩, ⟨some 42, .app 1 24 (.t 38) (.t 41), none⟩, ⟨some 3, .mov (.t 42), none⟩]) .skip))))) (.reg [⟨some 43, .bin .add (.t 16) (.c (.int .i64 1)), none⟩, ⟨some 16, .mov (.t 43), none⟩]))))))) (.seq (.reg [⟨some 44, .mov (.t 3), none⟩, ⟨some 2, .mov (.t 44), none⟩]) .ret))))
theorem is_audit_Secrets : FnIs Tryz.prog 19 45 c_audit_Secrets [.t 2] := ⟨Tryz.f19, _, Tryz.func19, rfl, rfl, by kernel_rfl, by kernel_rfl⟩

def c_audit_Fresh : CC := .seq (.reg [⟨some 2, .mov (.c (.bool false)), none⟩]) (.seq (.reg [⟨some 3, .mov (.t 0), none⟩, ⟨some 4, .eqv .p false (.t 3) (.c .nilp), none⟩, ⟨some 5, .mov (.t 4), none⟩, ⟨some 6, .mov (.t 0), some (5, false)⟩, ⟨some 7, .nilck (.t 6), some (5, false)⟩, ⟨some 8, .faddr 6 (.t 7), some (5, false)⟩, ⟨some 9, .load 1 false (.t 8), some (5, false)⟩, ⟨some 10, .call 36 [.t 9], some (5, false)⟩, ⟨some 11, .not (.t 10), some (5, false)⟩, ⟨some 12, .pick (.t 5) (.c (.bool true)) (.t 11), none⟩, ⟨some 2, .mov (.t 12), none⟩]) .ret)
theorem is_audit_Fresh : FnIs Tryz.prog 23 13 c_audit_Fresh [.t 2] := ⟨Tryz.f23, _, Tryz.func23, rfl, rfl, by kernel_rfl, by kernel_rfl⟩

def c_audit_Sound : CC := .seq (.reg [⟨some 2, .mov (.c (.bool false)), none⟩]) (.seq (.reg [⟨some 6, .raw Ex.mkmap, none⟩, ⟨some 3, .mov (.t 6), none⟩]) (.seq (.seq (.reg [⟨some 7, .mov (.t 0), none⟩, ⟨some 8, .call 37 [.t 7], none⟩, ⟨some 9, .len (.t 8), none⟩, ⟨some 10, .mov (.c (.int .i64 0)), none⟩]) (.block 0 (.loop (.seq (.reg [⟨some 11, .bin .lss (.t 10) (.t 9), none⟩]) (.seq (.cond (.t 11) .skip (.exit 0)) (.seq (.block 1 (.seq (.reg [⟨some 12, .mov (.t 10), none⟩, ⟨some 13, .iaddr 8 (.t 8) (.t 10), none⟩, ⟨some 14, .load 8 true (.t 13), none⟩, ⟨some 5, .alloc [.int .i64 0, .bool false, .int .i64 0, .int .u32 0, .int .u32 0, .int .u64 0, .int .u64 0, .int .u64 0], none⟩, ⟨some 4, .mov (.t 12), none⟩, ⟨none, .store 8 (.t 5) (.t 14), none⟩]) (.seq (.seq (.reg [⟨some 15, .load 8 true (.t 5), none⟩, ⟨some 16, .mov (.t 4), none⟩, ⟨some 17, .call 38 [.t 15, .t 16], none⟩, ⟨some 18, .not (.t 17), none⟩, ⟨some 19, .mov (.t 18), none⟩, ⟨some 20, .faddr 0 (.t 5), some (19, false)⟩, ⟨some 21, .load 1 false (.t 20), some (19, false)⟩, ⟨some 22, .bin .neq (.t 21) (.c (.int .i64 0)), some (19, false)⟩, ⟨some 23, .mov (.t 22), some (19, false)⟩, ⟨some 24, .mov (.t 3), some (23, true)⟩, ⟨some 25, .faddr 2 (.t 5), some (23, true)⟩, ⟨some 26, .load 1 false (.t 25), some (23, true)⟩, ⟨some 27, .raw (Ex.look MK.i (.bool false) false (.t 24) (.t 26)), some (23, true)⟩, ⟨some 28, .pick (.t 23) (.t 27) (.c (.bool false)), some (19, false)⟩, ⟨some 29, .pick (.t 19) (.c (.bool true)) (.t 28), none⟩]) (.cond (.t 29) (.seq (.reg [⟨some 2, .mov (.c (.bool false)), none⟩]) .ret) .skip)) (.reg [⟨some 30, .mov (.t 3), none⟩, ⟨some 31, .faddr 2 (.t 5), none⟩, ⟨some 32, .load 1 false (.t 31), none⟩, ⟨some 33, .mov (.t 3), none⟩, ⟨some 34, .faddr 2 (.t 5), none⟩, ⟨some 35, .load 1 false (.t 34), none⟩, ⟨some 36, .raw (Ex.look MK.i (.bool false) false (.t 33) (.t 35)), none⟩, ⟨some 37, .mov (.t 36), none⟩, ⟨some 38, .faddr 0 (.t 5), some (37, false)⟩, ⟨some 39, .load 1 false (.t 38), some (37, false)⟩, ⟨some 40, .bin .neq (.t 39) (.c (.int .i64 0)), some (37, false)⟩, ⟨some 41, .pick (.t 37) (.c (.bool true)) (.t 40), none⟩, ⟨none, .raw (Ex.mput MK.i (.t 30) (.t 32) (.t 41)), none⟩])))) (.reg [⟨some 42, .bin .add (.t 10) (.c (.int .i64 1)), none⟩, ⟨some 10, .mov (.t 42), none⟩]))))))) (.seq (.reg [⟨some 2, .mov (.c (.bool true)), none⟩]) .ret)))
theorem is_audit_Sound : FnIs Tryz.prog 24 43 c_audit_Sound [.t 2] := ⟨Tryz.f24, _, Tryz.func24, rfl, rfl, by kernel_rfl, by kernel_rfl⟩

def c_cache_Open : CC := .seq (.reg [⟨some 2, .mov (.c .nilp), none⟩, ⟨some 3, .mov (.c (.int .i64 0)), none⟩]) (.seq (.block 0 (.seq (.reg [⟨some 12, .mov (.t 0), none⟩, ⟨some 13, .eqv .p false (.t 12) (.c .nilp), none⟩, ⟨some 11, .mov (.t 13), none⟩]) (.cond (.t 11) (.seq (.reg [⟨some 2, .mov (.c .nilp), none⟩, ⟨some 3, .mov (.c (.int .i64 1)), none⟩]) .ret) (.seq (.reg [⟨some 15, .mov (.t 0), none⟩, ⟨some 16, .nilck (.t 15), none⟩, ⟨some 17, .faddr 1 (.t 16), none⟩, ⟨some 18, .load 1 false (.t 17), none⟩, ⟨some 19, .call 48 [.t 18], none⟩, ⟨some 20, .not (.t 19), none⟩, ⟨some 21, .mov (.t 20), none⟩, ⟨some 22, .mov (.t 0), some (21, false)⟩, ⟨some 23, .nilck (.t 22), some (21, false)⟩, ⟨some 24, .faddr 4 (.t 23), some (21, false)⟩, ⟨some 25, .load 1 false (.t 24), some (21, false)⟩, ⟨some 26, .call 49 [.t 25], some (21, false)⟩, ⟨some 27, .not (.t 26), some (21, false)⟩, ⟨some 28, .pick (.t 21) (.c (.bool true)) (.t 27), none⟩, ⟨some 14, .mov (.t 28), none⟩]) (.cond (.t 14) (.seq (.reg [⟨some 2, .mov (.c .nilp), none⟩, ⟨some 3, .mov (.c (.int .i64 7)), none⟩]) .ret) .skip))))) (.seq (.reg [⟨some 30, .mov (.t 0), none⟩, ⟨some 31, .call 50 [.t 30], none⟩, ⟨some 29, .mov (.t 31), none⟩, ⟨some 32, .ext 0 (.t 29), none⟩, ⟨some 33, .ext 1 (.t 29), none⟩, ⟨some 4, .mov (.t 32), none⟩, ⟨some 5, .mov (.t 33), none⟩]) (.seq (.seq (.reg [⟨some 34, .mov (.t 5), none⟩, ⟨some 35, .bin .neq (.t 34) (.c (.int .i64 0)), none⟩]) (.cond (.t 35) (.seq (.reg [⟨some 36, .mov (.t 5), none⟩, ⟨some 2, .mov (.c .nilp), none⟩, ⟨some 3, .mov (.t 36), none⟩]) .ret) .skip)) (.seq (.reg [⟨some 38, .mov (.t 0), none⟩, ⟨some 39, .nilck (.t 38), none⟩, ⟨some 40, .faddr 4 (.t 39), none⟩, ⟨some 41, .load 1 false (.t 40), none⟩, ⟨some 42, .call 52 [.t 41], none⟩, ⟨some 43, .call 51 [.t 42], none⟩, ⟨some 37, .mov (.t 43), none⟩, ⟨some 44, .ext 0 (.t 37), none⟩, ⟨some 45, .ext 1 (.t 37), none⟩, ⟨some 6, .mov (.t 44), none⟩, ⟨some 5, .mov (.t 45), none⟩]) (.seq (.seq (.reg [⟨some 46, .mov (.t 5), none⟩, ⟨some 47, .bin .neq (.t 46) (.c (.int .i64 0)), none⟩]) (.cond (.t 47) (.seq (.reg [⟨some 48, .mov (.t 5), none⟩, ⟨some 2, .mov (.c .nilp), none⟩, ⟨some 3, .mov (.t 48), none⟩]) .ret) .skip)) (.seq (.reg [⟨some 49, .mov (.t 0), none⟩, ⟨some 50, .mov (.t 6), none⟩, ⟨some 51, .mov (.t 4), none⟩, ⟨some 52, .mov (.t 4), none⟩, ⟨some 53, .call 53 [.t 52], none⟩, ⟨some 54, .call 54 [], none⟩, ⟨some 55, .build [.nilp, .nilp, .nils, .nils, .nilp, .bool false] [(0, 1, .t 49), (1, 1, .t 50), (2, 1, .t 51), (3, 1, .t 53), (4, 1, .t 54)], none⟩, ⟨some 56, .box 6 (.t 55), none⟩, ⟨some 7, .mov (.t 56), none⟩]) (.seq (.seq (.reg [⟨some 57, .mov (.t 4), none⟩, ⟨some 58, .len (.t 57), none⟩, ⟨some 59, .mov (.c (.int .i64 0)), none⟩]) (.block 1 (.loop (.seq (.reg [⟨some 60, .bin .lss (.t 59) (.t 58), none⟩]) (.seq (.cond (.t 60) .skip (.exit 1)) (.seq (.block 2 (.seq (.reg [⟨some 61, .mov (.t 59), none⟩, ⟨some 62, .iaddr 8 (.t 57) (.t 59), none⟩, ⟨some 63, .load 8 true (.t 62), none⟩, ⟨some 9, .alloc [.int .i64 0, .bool false, .int .i64 0, .int .u32 0, .int .u32 0, .int .u64 0, .int .u64 0, .int .u64 0], none⟩, ⟨some 8, .mov (.t 61), none⟩, ⟨none, .store 8 (.t 9) (.t 63), none⟩]) (.seq (.reg [⟨some 64, .faddr 0 (.t 9), none⟩, ⟨some 65, .load 1 false (.t 64), none⟩, ⟨some 66, .bin .neq (.t 65) (.c (.int .i64 0)), none⟩]) (.cond (.t 66) (.reg [⟨some 67, .mov (.t 7), none⟩, ⟨some 68, .nilck (.t 67), none⟩, ⟨some 69, .faddr 4 (.t 68), none⟩, ⟨some 70, .load 1 false (.t 69), none⟩, ⟨some 71, .mov (.t 8), none⟩, ⟨some 72, .call 55 [.t 70, .t 71], none⟩]) .skip)))) (.reg [⟨some 73, .bin .add (.t 59) (.c (.int .i64 1)), none⟩, ⟨some 59, .mov (.t 73), none⟩]))))))) (.seq (.seq (.reg [⟨some 74, .mov (.t 7), none⟩, ⟨some 75, .call 56 [.t 74], none⟩, ⟨some 10, .mov (.t 75), none⟩]) (.seq (.reg [⟨some 76, .mov (.t 10), none⟩, ⟨some 77, .bin .neq (.t 76) (.c (.int .i64 0)), none⟩]) (.cond (.t 77) (.seq (.reg [⟨some 78, .mov (.t 10), none⟩, ⟨some 2, .mov (.c .nilp), none⟩, ⟨some 3, .mov (.t 78), none⟩]) .ret) .skip))) (.seq (.reg [⟨some 79, .mov (.t 7), none⟩, ⟨some 2, .mov (.t 79), none⟩, ⟨some 3, .mov (.c (.int .i64 0)), none⟩]) .ret)))))))))
theorem is_cache_Open : FnIs Tryz.prog 26 80 c_cache_Open [.t 2, .t 3] := ⟨Tryz.f26, _, Tryz.func26, rfl, rfl, by kernel_rfl, by kernel_rfl⟩

def c_play_Box_call : CC := .seq (.reg [⟨some 3, .box 3 (.t 1), none⟩, ⟨some 4, .alloc [.int .i64 0, .nils], none⟩]) (.seq (.seq (.reg [⟨some 5, .mov (.t 0), none⟩, ⟨some 6, .nilck (.t 5), none⟩, ⟨some 7, .faddr 1 (.t 6), none⟩, ⟨some 8, .load 1 false (.t 7), none⟩, ⟨some 9, .eqv .p false (.t 8) (.c .nilp), none⟩]) (.cond (.t 9) (.seq (.reg [⟨some 10, .build [.int .i64 0, .nils] [(0, 1, .c (.int .i64 8))], none⟩, ⟨none, .store 2 (.t 4) (.t 10), none⟩]) .ret) .skip)) (.seq (.dreg [⟨some 11, .mov (.t 0), none⟩, ⟨some 12, .nilck (.t 11), none⟩, ⟨some 13, .faddr 1 (.t 12), none⟩, ⟨some 14, .load 1 false (.t 13), none⟩, ⟨some 15, .load 3 true (.t 3), none⟩, ⟨some 16, .call 57 [.t 14, .t 15], none⟩, ⟨none, .store 2 (.t 4) (.t 16), none⟩] [[], [0], [1], [2], [], [3, 4], [5, 5, 0, 1, 2, 3, 4, 5]]) .ret))
theorem is_play_Box_call : FnIs Tryz.prog 27 17 c_play_Box_call [.cell 4 2 true] := ⟨Tryz.f27, _, Tryz.func27, rfl, rfl, by kernel_rfl, by kernel_rfl⟩

def c_cache_Cache_Leaves : CC := .seq (.reg [⟨some 2, .mov (.c .nils), none⟩]) (.seq (.seq (.reg [⟨some 3, .mov (.t 0), none⟩, ⟨some 4, .eqv .p false (.t 3) (.c .nilp), none⟩]) (.cond (.t 4) (.seq (.reg [⟨some 2, .mov (.c .nils), none⟩]) .ret) .skip)) (.seq (.reg [⟨some 5, .mov (.t 0), none⟩, ⟨some 6, .nilck (.t 5), none⟩, ⟨some 7, .faddr 2 (.t 6), none⟩, ⟨some 8, .load 1 false (.t 7), none⟩, ⟨some 9, .call 53 [.t 8], none⟩, ⟨some 2, .mov (.t 9), none⟩]) .ret))
theorem is_cache_Cache_Leaves : FnIs Tryz.prog 37 10 c_cache_Cache_Leaves [.t 2] := ⟨Tryz.f37, _, Tryz.func37, rfl, rfl, by kernel_rfl, by kernel_rfl⟩

def c_slices_Cloneapi_Leaf_api_Leaf : CC := .seq (.reg [⟨some 2, .mov (.c .nils), none⟩]) (.seq (.seq (.reg [⟨some 3, .mov (.t 0), none⟩, ⟨some 4, .isnil false (.t 3), none⟩]) (.cond (.t 4) (.seq (.reg [⟨some 2, .mov (.c .nils), none⟩]) .ret) .skip)) (.seq (.reg [⟨some 5, .bsl0, none⟩, ⟨some 6, .mov (.t 0), none⟩, ⟨some 7, .app 8 56 (.t 5) (.t 6), none⟩, ⟨some 2, .mov (.t 7), none⟩]) .ret))
theorem is_slices_Cloneapi_Leaf_api_Leaf : FnIs Tryz.prog 53 8 c_slices_Cloneapi_Leaf_api_Leaf [.t 2] := ⟨Tryz.f53, _, Tryz.func53, rfl, rfl, by kernel_rfl, by kernel_rfl⟩

def c_age_New : CC := .seq (.reg [⟨some 0, .mov (.c .nilp), none⟩]) (.seq (.reg [⟨some 2, .build [.int .i64 0, .int .i64 0, .int .i64 0, .int .i64 0, .int .i64 0, .int .i64 0, .int .i64 0, .int .i64 0, .int .i64 0, .int .i64 0, .int .i64 0, .int .i64 0, .int .i64 0, .int .i64 0, .int .i64 0, .int .i64 0, .int .i64 0, .nilp] [], none⟩, ⟨some 3, .box 18 (.t 2), none⟩, ⟨some 1, .mov (.t 3), none⟩]) (.seq (.reg [⟨some 4, .mov (.t 1), none⟩, ⟨some 5, .mov (.t 1), none⟩, ⟨some 6, .mkf (.func 81) [.t 5] [], none⟩, ⟨some 7, .build [.nils, .nilf] [(1, 1, .t 6)], none⟩, ⟨some 8, .box 2 (.t 7), none⟩, ⟨some 9, .nilck (.t 4), none⟩, ⟨some 10, .faddr 17 (.t 9), none⟩, ⟨none, .store 1 (.t 10) (.t 8), none⟩]) (.seq (.reg [⟨some 11, .mov (.t 1), none⟩, ⟨some 0, .mov (.t 11), none⟩]) .ret)))
theorem is_age_New : FnIs Tryz.prog 54 12 c_age_New [.t 0] := ⟨Tryz.f54, _, Tryz.func54, rfl, rfl, by kernel_rfl, by kernel_rfl⟩

def c_age_Age_Touch : CC := .seq (.reg [⟨some 4, .mov (.c (.bool false)), none⟩]) (.seq (.seq (.reg [⟨some 5, .mov (.t 0), none⟩, ⟨some 6, .eqv .p false (.t 5) (.c .nilp), none⟩, ⟨some 7, .mov (.t 6), none⟩, ⟨some 8, .mov (.t 1), some (7, false)⟩, ⟨some 9, .bin .lss (.t 8) (.c (.int .i64 0)), some (7, false)⟩, ⟨some 10, .pick (.t 7) (.c (.bool true)) (.t 9), none⟩, ⟨some 11, .mov (.t 10), none⟩, ⟨some 12, .mov (.t 1), some (11, false)⟩, ⟨some 13, .bin .geq (.t 12) (.c (.int .i64 16)), some (11, false)⟩, ⟨some 14, .pick (.t 11) (.c (.bool true)) (.t 13), none⟩]) (.cond (.t 14) (.seq (.reg [⟨some 4, .mov (.c (.bool false)), none⟩]) .ret) .skip)) (.seq (.reg [⟨some 15, .mov (.t 0), none⟩, ⟨some 16, .mov (.t 1), none⟩, ⟨some 17, .call 82 [.t 15, .t 16], none⟩]) (.seq (.reg [⟨some 18, .mov (.t 0), none⟩, ⟨some 19, .nilck (.t 18), none⟩, ⟨some 20, .faddr 16 (.t 19), none⟩, ⟨some 21, .load 1 false (.t 20), none⟩, ⟨some 22, .bin .add (.t 21) (.c (.int .i64 1)), none⟩, ⟨some 23, .nilck (.t 18), none⟩, ⟨some 24, .faddr 16 (.t 23), none⟩, ⟨none, .store 1 (.t 24) (.t 22), none⟩]) (.seq (.dreg [⟨some 25, .mov (.t 0), none⟩, ⟨some 26, .mov (.t 1), none⟩, ⟨some 27, .mov (.t 0), none⟩, ⟨some 28, .nilck (.t 27), none⟩, ⟨some 29, .faddr 16 (.t 28), none⟩, ⟨some 30, .load 1 false (.t 29), none⟩, ⟨some 31, .nilck (.t 25), none⟩, ⟨some 32, .faddr 0 (.t 31), none⟩, ⟨some 33, .iaddrA 16 1 (.t 32) (.t 26), none⟩, ⟨none, .store 1 (.t 33) (.t 30), none⟩] [[], [], [], [2], [3], [4], [0], [6], [7, 1, 0, 1, 2, 3, 4, 5], [8, 5, 0, 1, 2, 3, 4, 5]]) (.seq (.reg [⟨some 34, .mov (.t 0), none⟩, ⟨some 35, .nilck (.t 34), none⟩, ⟨some 36, .faddr 17 (.t 35), none⟩, ⟨some 37, .load 1 false (.t 36), none⟩, ⟨some 38, .raw (Ex.mkif 156 (.t 37)), none⟩, ⟨some 39, .mov (.t 1), none⟩, ⟨some 40, .raw (Ex.mkif 3 (.t 39)), none⟩, ⟨some 41, .call 83 [.t 38, .t 40], none⟩]) (.seq (.reg [⟨some 4, .mov (.c (.bool true)), none⟩]) .ret))))))
theorem is_age_Age_Touch : FnIs Tryz.prog 55 42 c_age_Age_Touch [.t 4] := ⟨Tryz.f55, _, Tryz.func55, rfl, rfl, by kernel_rfl, by kernel_rfl⟩

def c_cache_Cache_finish : CC := .seq (.reg [⟨some 2, .mov (.c (.int .i64 0)), none⟩]) (.seq (.seq (.reg [⟨some 4, .mov (.t 0), none⟩, ⟨some 5, .nilck (.t 4), none⟩, ⟨some 6, .faddr 0 (.t 5), none⟩, ⟨some 7, .load 1 false (.t 6), none⟩, ⟨some 8, .nilck (.t 7), none⟩, ⟨some 9, .faddr 5 (.t 8), none⟩, ⟨some 10, .load 1 false (.t 9), none⟩, ⟨some 11, .call 64 [.t 10], none⟩, ⟨some 12, .len (.t 11), none⟩, ⟨some 13, .bin .lss (.t 12) (.c (.int .i64 2)), none⟩]) (.cond (.t 13) (.seq (.reg [⟨some 2, .mov (.c (.int .i64 0)), none⟩]) .ret) .skip)) (.seq (.seq (.reg [⟨some 14, .mov (.t 0), none⟩, ⟨some 15, .call 84 [.t 14], none⟩, ⟨some 3, .mov (.t 15), none⟩]) (.seq (.reg [⟨some 16, .mov (.t 3), none⟩, ⟨some 17, .bin .neq (.t 16) (.c (.int .i64 0)), none⟩]) (.cond (.t 17) (.seq (.reg [⟨some 18, .mov (.t 3), none⟩, ⟨some 2, .mov (.t 18), none⟩]) .ret) .skip))) (.seq (.reg [⟨some 19, .mov (.t 0), none⟩, ⟨some 20, .call 85 [.t 19], none⟩, ⟨some 2, .mov (.t 20), none⟩]) .ret)))
theorem is_cache_Cache_finish : FnIs Tryz.prog 56 21 c_cache_Cache_finish [.t 2] := ⟨Tryz.f56, _, Tryz.func56, rfl, rfl, by kernel_rfl, by kernel_rfl⟩

def c_cache_Cache_Do : CC := .seq (.reg [⟨some 3, .box 3 (.t 1), none⟩, ⟨some 4, .alloc [.int .i64 0, .nils], none⟩]) (.seq (.block 0 (.seq (.reg [⟨some 7, .mov (.t 0), none⟩, ⟨some 8, .eqv .p false (.t 7) (.c .nilp), none⟩, ⟨some 6, .mov (.t 8), none⟩]) (.cond (.t 6) (.seq (.reg [⟨some 9, .build [.int .i64 0, .nils] [(0, 1, .c (.int .i64 1))], none⟩, ⟨none, .store 2 (.t 4) (.t 9), none⟩]) .ret) (.seq (.reg [⟨some 11, .mov (.t 0), none⟩, ⟨some 12, .nilck (.t 11), none⟩, ⟨some 13, .faddr 0 (.t 12), none⟩, ⟨some 14, .load 1 false (.t 13), none⟩, ⟨some 15, .nilck (.t 14), none⟩, ⟨some 16, .faddr 1 (.t 15), none⟩, ⟨some 17, .load 1 false (.t 16), none⟩, ⟨some 18, .call 48 [.t 17], none⟩, ⟨some 19, .not (.t 18), none⟩, ⟨some 10, .mov (.t 19), none⟩]) (.cond (.t 10) (.seq (.reg [⟨some 20, .build [.int .i64 0, .nils] [(0, 1, .c (.int .i64 7))], none⟩, ⟨none, .store 2 (.t 4) (.t 20), none⟩]) .ret) (.seq (.reg [⟨some 22, .mov (.t 0), none⟩, ⟨some 23, .nilck (.t 22), none⟩, ⟨some 24, .faddr 5 (.t 23), none⟩, ⟨some 25, .load 1 false (.t 24), none⟩, ⟨some 21, .mov (.t 25), none⟩]) (.cond (.t 21) (.seq (.reg [⟨some 26, .build [.int .i64 0, .nils] [(0, 1, .c (.int .i64 4))], none⟩, ⟨none, .store 2 (.t 4) (.t 26), none⟩]) .ret) (.seq (.reg [⟨some 28, .load 3 true (.t 3), none⟩, ⟨some 29, .call 86 [.t 28], none⟩, ⟨some 30, .not (.t 29), none⟩, ⟨some 27, .mov (.t 30), none⟩]) (.cond (.t 27) (.seq (.reg [⟨some 31, .build [.int .i64 0, .nils] [(0, 1, .c (.int .i64 1))], none⟩, ⟨none, .store 2 (.t 4) (.t 31), none⟩]) .ret) .skip))))))))) (.seq (.reg [⟨some 32, .raw Ex.mkmap, none⟩, ⟨none, .raw (Ex.mput MK.i (.t 32) (.c (.int .i64 1)) (.c (.func (.func 87) [] []))), none⟩, ⟨none, .raw (Ex.mput MK.i (.t 32) (.c (.int .i64 2)) (.c (.func (.func 88) [] []))), none⟩, ⟨none, .raw (Ex.mput MK.i (.t 32) (.c (.int .i64 3)) (.c (.func (.func 89) [] []))), none⟩, ⟨none, .raw (Ex.mput MK.i (.t 32) (.c (.int .i64 4)) (.c (.func (.func 90) [] []))), none⟩, ⟨none, .raw (Ex.mput MK.i (.t 32) (.c (.int .i64 5)) (.c (.func (.func 91) [] []))), none⟩, ⟨some 33, .mov (.t 32), none⟩, ⟨some 5, .mov (.t 33), none⟩]) (.seq (.reg [⟨some 34, .mov (.t 5), none⟩, ⟨some 35, .faddr 0 (.t 3), none⟩, ⟨some 36, .load 1 false (.t 35), none⟩, ⟨some 37, .raw (Ex.look MK.i .nilf false (.t 34) (.t 36)), none⟩, ⟨some 38, .mov (.t 0), none⟩, ⟨some 39, .load 3 true (.t 3), none⟩, ⟨some 40, .callv (.t 37) [.t 38, .t 39], none⟩, ⟨none, .store 2 (.t 4) (.t 40), none⟩]) .ret)))
theorem is_cache_Cache_Do : FnIs Tryz.prog 57 41 c_cache_Cache_Do [.cell 4 2 true] := ⟨Tryz.f57, _, Tryz.func57, rfl, rfl, by kernel_rfl, by kernel_rfl⟩

def c_age_Age_Drop : CC := .seq (.reg [⟨some 4, .mov (.c (.bool false)), none⟩]) (.seq (.seq (.reg [⟨some 6, .mov (.t 0), none⟩, ⟨some 7, .eqv .p false (.t 6) (.c .nilp), none⟩]) (.cond (.t 7) (.seq (.reg [⟨some 4, .mov (.c (.bool false)), none⟩]) .ret) .skip)) (.seq (.reg [⟨some 8, .mov (.t 0), none⟩, ⟨some 9, .nilck (.t 8), none⟩, ⟨some 10, .faddr 17 (.t 9), none⟩, ⟨some 11, .load 1 false (.t 10), none⟩, ⟨some 12, .nilck (.t 11), none⟩, ⟨some 13, .faddr 0 (.t 12), none⟩, ⟨some 14, .load 1 false (.t 13), none⟩, ⟨some 15, .mov (.t 1), none⟩, ⟨some 16, .call 120 [.t 14, .t 15], none⟩, ⟨some 5, .mov (.t 16), none⟩]) (.seq (.seq (.reg [⟨some 17, .mov (.t 5), none⟩, ⟨some 18, .bin .lss (.t 17) (.c (.int .i64 0)), none⟩]) (.cond (.t 18) (.seq (.reg [⟨some 4, .mov (.c (.bool false)), none⟩]) .ret) .skip)) (.seq (.reg [⟨some 19, .mov (.t 0), none⟩, ⟨some 20, .nilck (.t 19), none⟩, ⟨some 21, .faddr 17 (.t 20), none⟩, ⟨some 22, .load 1 false (.t 21), none⟩, ⟨some 23, .raw (Ex.mkif 156 (.t 22)), none⟩, ⟨some 24, .mov (.t 5), none⟩, ⟨some 25, .call 121 [.t 23, .t 24], none⟩]) (.seq (.reg [⟨some 4, .mov (.c (.bool true)), none⟩]) .ret)))))
theorem is_age_Age_Drop : FnIs Tryz.prog 82 26 c_age_Age_Drop [.t 4] := ⟨Tryz.f82, _, Tryz.func82, rfl, rfl, by kernel_rfl, by kernel_rfl⟩

def c_container_heap_Push : CC := .seq (.reg [⟨some 4, .mov (.t 0), none⟩, ⟨some 5, .mov (.t 1), none⟩, ⟨some 6, .raw (Ex.inv "Push" (.t 4) [.t 5]), none⟩]) (.reg [⟨some 7, .mov (.t 0), none⟩, ⟨some 8, .mov (.t 0), none⟩, ⟨some 9, .raw (Ex.inv "Len" (.t 8) []), none⟩, ⟨some 10, .bin .sub (.t 9) (.c (.int .i64 1)), none⟩, ⟨some 11, .call 122 [.t 7, .t 10], none⟩])
theorem is_container_heap_Push : FnIs Tryz.prog 83 12 c_container_heap_Push [] := ⟨Tryz.f83, _, Tryz.func83, rfl, rfl, by kernel_rfl, by kernel_rfl⟩

def c_model_Is : CC := .seq (.reg [⟨some 1, .box 3 (.t 0), none⟩, ⟨some 2, .mov (.c (.bool false)), none⟩]) (.seq (.seq (.reg [⟨some 3, .faddr 0 (.t 1), none⟩, ⟨some 4, .load 1 false (.t 3), none⟩]) (.block 0 (.seq (.seq (.reg [⟨some 6, .bin .eql (.t 4) (.c (.int .i64 1)), none⟩, ⟨some 5, .mov (.t 6), none⟩]) (.cond (.t 5) .skip (.reg [⟨some 7, .bin .eql (.t 4) (.c (.int .i64 4)), none⟩, ⟨some 5, .mov (.t 7), none⟩]))) (.cond (.t 5) (.seq (.reg [⟨some 8, .faddr 1 (.t 1), none⟩, ⟨some 9, .load 1 false (.t 8), none⟩, ⟨some 10, .call 128 [.t 9], none⟩, ⟨some 2, .mov (.t 10), none⟩]) .ret) (.seq (.reg [⟨some 12, .bin .eql (.t 4) (.c (.int .i64 2)), none⟩, ⟨some 11, .mov (.t 12), none⟩]) (.cond (.t 11) (.seq (.reg [⟨some 13, .faddr 1 (.t 1), none⟩, ⟨some 14, .load 1 false (.t 13), none⟩, ⟨some 15, .call 128 [.t 14], none⟩, ⟨some 16, .mov (.t 15), none⟩, ⟨some 17, .faddr 2 (.t 1), some (16, true)⟩, ⟨some 18, .load 1 false (.t 17), some (16, true)⟩, ⟨some 19, .len (.t 18), some (16, true)⟩, ⟨some 20, .bin .eql (.t 19) (.c (.int .i64 32)), some (16, true)⟩, ⟨some 21, .pick (.t 16) (.t 20) (.c (.bool false)), none⟩, ⟨some 2, .mov (.t 21), none⟩]) .ret) (.seq (.seq (.reg [⟨some 23, .bin .eql (.t 4) (.c (.int .i64 3)), none⟩, ⟨some 22, .mov (.t 23), none⟩]) (.cond (.t 22) .skip (.reg [⟨some 24, .bin .eql (.t 4) (.c (.int .i64 5)), none⟩, ⟨some 22, .mov (.t 24), none⟩]))) (.cond (.t 22) (.seq (.reg [⟨some 2, .mov (.c (.bool true)), none⟩]) .ret) .skip)))))))) (.seq (.reg [⟨some 2, .mov (.c (.bool false)), none⟩]) .ret))
theorem is_model_Is : FnIs Tryz.prog 86 25 c_model_Is [.t 2] := ⟨Tryz.f86, _, Tryz.func86, rfl, rfl, by kernel_rfl, by kernel_rfl⟩

def c_cache_Cache_write : CC := .seq (.reg [⟨some 3, .box 3 (.t 1), none⟩, ⟨some 4, .alloc [.int .i64 0, .nils], none⟩]) (.seq (.seq (.reg [⟨some 9, .mov (.t 0), none⟩, ⟨some 10, .call 136 [.t 9], none⟩, ⟨some 5, .mov (.t 10), none⟩]) (.seq (.reg [⟨some 11, .mov (.t 5), none⟩, ⟨some 12, .bin .neq (.t 11) (.c (.int .i64 0)), none⟩]) (.cond (.t 12) (.seq (.reg [⟨some 13, .mov (.t 5), none⟩, ⟨some 14, .build [.int .i64 0, .nils] [(0, 1, .t 13)], none⟩, ⟨none, .store 2 (.t 4) (.t 14), none⟩]) .ret) .skip))) (.seq (.reg [⟨some 16, .mov (.t 0), none⟩, ⟨some 17, .faddr 1 (.t 3), none⟩, ⟨some 18, .load 1 false (.t 17), none⟩, ⟨some 19, .faddr 2 (.t 3), none⟩, ⟨some 20, .load 1 false (.t 19), none⟩, ⟨some 21, .call 134 [.t 16, .t 18, .t 20, .c (.bool true)], none⟩, ⟨some 15, .mov (.t 21), none⟩, ⟨some 22, .ext 0 (.t 15), none⟩, ⟨some 23, .ext 1 (.t 15), none⟩, ⟨some 24, .ext 2 (.t 15), none⟩, ⟨some 7, .alloc [.int .i64 0, .bool false, .int .i64 0, .int .u32 0, .int .u32 0, .int .u64 0, .int .u64 0, .int .u64 0], none⟩, ⟨some 6, .mov (.t 22), none⟩, ⟨none, .store 8 (.t 7) (.t 23), none⟩, ⟨some 8, .mov (.t 24), none⟩]) (.seq (.seq (.reg [⟨some 25, .mov (.t 8), none⟩, ⟨some 26, .bin .neq (.t 25) (.c (.int .i64 0)), none⟩]) (.cond (.t 26) (.seq (.reg [⟨some 27, .mov (.t 8), none⟩, ⟨some 28, .build [.int .i64 0, .nils] [(0, 1, .t 27)], none⟩, ⟨none, .store 2 (.t 4) (.t 28), none⟩]) .ret) .skip)) (.seq (.reg [⟨some 29, .mov (.t 0), none⟩, ⟨some 30, .mov (.t 6), none⟩, ⟨some 31, .load 8 true (.t 7), none⟩, ⟨some 32, .call 135 [.t 29, .t 30, .t 31], none⟩]) (.seq (.reg [⟨some 33, .build [.int .i64 0, .nils] [], none⟩, ⟨none, .store 2 (.t 4) (.t 33), none⟩]) .ret)))))
theorem is_cache_Cache_write : FnIs Tryz.prog 88 34 c_cache_Cache_write [.cell 4 2 true] := ⟨Tryz.f88, _, Tryz.func88, rfl, rfl, by kernel_rfl, by kernel_rfl⟩

def c_slices_Indexint_int : CC := .seq (.reg [⟨some 4, .mov (.c (.int .i64 0)), none⟩]) (.seq (.seq (.reg [⟨some 6, .mov (.t 0), none⟩, ⟨some 7, .len (.t 6), none⟩, ⟨some 8, .mov (.c (.int .i64 0)), none⟩]) (.block 0 (.loop (.seq (.reg [⟨some 9, .bin .lss (.t 8) (.t 7), none⟩]) (.seq (.cond (.t 9) .skip (.exit 0)) (.seq (.block 1 (.seq (.reg [⟨some 10, .mov (.t 8), none⟩, ⟨some 5, .mov (.t 10), none⟩]) (.seq (.reg [⟨some 11, .mov (.t 1), none⟩, ⟨some 12, .mov (.t 0), none⟩, ⟨some 13, .mov (.t 5), none⟩, ⟨some 14, .iaddr 1 (.t 12) (.t 13), none⟩, ⟨some 15, .load 1 false (.t 14), none⟩, ⟨some 16, .bin .eql (.t 11) (.t 15), none⟩]) (.cond (.t 16) (.seq (.reg [⟨some 17, .mov (.t 5), none⟩, ⟨some 4, .mov (.t 17), none⟩]) .ret) .skip)))) (.reg [⟨some 18, .bin .add (.t 8) (.c (.int .i64 1)), none⟩, ⟨some 8, .mov (.t 18), none⟩]))))))) (.seq (.reg [⟨some 4, .mov (.c (.int .i64 (-1))), none⟩]) .ret))
theorem is_slices_Indexint_int : FnIs Tryz.prog 120 19 c_slices_Indexint_int [.t 4] := ⟨Tryz.f120, _, Tryz.func120, rfl, rfl, by kernel_rfl, by kernel_rfl⟩

def c_container_heap_up : CC := .block 0 (.loop (.block 1 (.seq (.reg [⟨some 5, .mov (.t 1), none⟩, ⟨some 6, .bin .sub (.t 5) (.c (.int .i64 1)), none⟩, ⟨some 7, .bin .quo (.t 6) (.c (.int .i64 2)), none⟩, ⟨some 4, .mov (.t 7), none⟩]) (.seq (.seq (.reg [⟨some 8, .mov (.t 4), none⟩, ⟨some 9, .mov (.t 1), none⟩, ⟨some 10, .bin .eql (.t 8) (.t 9), none⟩, ⟨some 11, .mov (.t 10), none⟩, ⟨some 12, .mov (.t 0), some (11, false)⟩, ⟨some 13, .mov (.t 1), some (11, false)⟩, ⟨some 14, .mov (.t 4), some (11, false)⟩, ⟨some 15, .raw (Ex.inv "Less" (.t 12) [.t 13, .t 14]), some (11, false)⟩, ⟨some 16, .not (.t 15), some (11, false)⟩, ⟨some 17, .pick (.t 11) (.c (.bool true)) (.t 16), none⟩]) (.cond (.t 17) (.exit 0) .skip)) (.seq (.reg [⟨some 18, .mov (.t 0), none⟩, ⟨some 19, .mov (.t 4), none⟩, ⟨some 20, .mov (.t 1), none⟩, ⟨some 21, .raw (Ex.inv "Swap" (.t 18) [.t 19, .t 20]), none⟩]) (.reg [⟨some 22, .mov (.t 4), none⟩, ⟨some 1, .mov (.t 22), none⟩]))))))
theorem is_container_heap_up : FnIs Tryz.prog 122 23 c_container_heap_up [] := ⟨Tryz.f122, _, Tryz.func122, rfl, rfl, by kernel_rfl, by kernel_rfl⟩

def c_model_isLba : CC := .seq (.reg [⟨some 2, .mov (.c (.bool false)), none⟩]) (.seq (.reg [⟨some 3, .mov (.t 0), none⟩, ⟨some 4, .bin .geq (.t 3) (.c (.int .i64 0)), none⟩, ⟨some 5, .mov (.t 4), none⟩, ⟨some 6, .mov (.t 0), some (5, true)⟩, ⟨some 7, .bin .lss (.t 6) (.c (.int .i64 32)), some (5, true)⟩, ⟨some 8, .pick (.t 5) (.t 7) (.c (.bool false)), none⟩, ⟨some 2, .mov (.t 8), none⟩]) .ret)
theorem is_model_isLba : FnIs Tryz.prog 128 9 c_model_isLba [.t 2] := ⟨Tryz.f128, _, Tryz.func128, rfl, rfl, by kernel_rfl, by kernel_rfl⟩

def c_cache_Cache_slot : CC := .seq (.reg [⟨some 3, .box 1 (.t 1), none⟩, ⟨some 4, .mov (.c (.int .i64 0)), none⟩]) (.seq (.reg [⟨some 5, .mov (.t 0), none⟩, ⟨some 6, .nilck (.t 5), none⟩, ⟨some 7, .faddr 2 (.t 6), none⟩, ⟨some 8, .load 1 false (.t 7), none⟩, ⟨some 9, .mkf (.func 165) [] [.t 3], none⟩, ⟨some 10, .call 164 [.t 8, .t 9], none⟩, ⟨some 4, .mov (.t 10), none⟩]) .ret)
theorem is_cache_Cache_slot : FnIs Tryz.prog 129 11 c_cache_Cache_slot [.t 4] := ⟨Tryz.f129, _, Tryz.func129, rfl, rfl, by kernel_rfl, by kernel_rfl⟩

def c_cache_Cache_free : CC := .seq (.reg [⟨some 2, .mov (.c (.int .i64 0)), none⟩]) (.seq (.seq (.reg [⟨some 4, .mov (.t 0), none⟩, ⟨some 5, .nilck (.t 4), none⟩, ⟨some 6, .faddr 2 (.t 5), none⟩, ⟨some 7, .load 1 false (.t 6), none⟩, ⟨some 8, .len (.t 7), none⟩, ⟨some 9, .mov (.c (.int .i64 0)), none⟩]) (.block 0 (.loop (.seq (.reg [⟨some 10, .bin .lss (.t 9) (.t 8), none⟩]) (.seq (.cond (.t 10) .skip (.exit 0)) (.seq (.block 1 (.seq (.reg [⟨some 11, .mov (.t 9), none⟩, ⟨some 3, .mov (.t 11), none⟩]) (.seq (.reg [⟨some 12, .mov (.t 0), none⟩, ⟨some 13, .mov (.t 3), none⟩, ⟨some 14, .call 169 [.t 12, .t 13], none⟩]) (.cond (.t 14) (.seq (.reg [⟨some 15, .mov (.t 3), none⟩, ⟨some 2, .mov (.t 15), none⟩]) .ret) .skip)))) (.reg [⟨some 16, .bin .add (.t 9) (.c (.int .i64 1)), none⟩, ⟨some 9, .mov (.t 16), none⟩]))))))) (.seq (.reg [⟨some 2, .mov (.c (.int .i64 (-1))), none⟩]) .ret))
theorem is_cache_Cache_free : FnIs Tryz.prog 132 17 c_cache_Cache_free [.t 2] := ⟨Tryz.f132, _, Tryz.func132, rfl, rfl, by kernel_rfl, by kernel_rfl⟩

def c_cache_Cache_lay : CC := .seq (.reg [⟨some 8, .mov (.c (.int .i64 0)), none⟩, ⟨some 9, .alloc [.int .i64 0, .bool false, .int .i64 0, .int .u32 0, .int .u32 0, .int .u64 0, .int .u64 0, .int .u64 0], none⟩, ⟨some 10, .mov (.c (.int .i64 0)), none⟩]) (.seq (.reg [⟨some 18, .mov (.t 0), none⟩, ⟨some 19, .call 132 [.t 18], none⟩, ⟨some 11, .mov (.t 19), none⟩]) (.seq (.reg [⟨some 21, .mov (.t 0), none⟩, ⟨some 22, .nilck (.t 21), none⟩, ⟨some 23, .faddr 0 (.t 22), none⟩, ⟨some 24, .load 1 false (.t 23), none⟩, ⟨some 25, .call 170 [.t 24], none⟩, ⟨some 20, .mov (.t 25), none⟩, ⟨some 26, .ext 0 (.t 20), none⟩, ⟨some 27, .ext 1 (.t 20), none⟩, ⟨some 13, .alloc [.int .u64 0, .int .u64 0], none⟩, ⟨some 12, .mov (.t 26), none⟩, ⟨none, .store 2 (.t 13) (.t 27), none⟩]) (.seq (.reg [⟨some 29, .mov (.t 0), none⟩, ⟨some 30, .nilck (.t 29), none⟩, ⟨some 31, .faddr 1 (.t 30), none⟩, ⟨some 32, .load 1 false (.t 31), none⟩, ⟨some 33, .mov (.t 12), none⟩, ⟨some 34, .mov (.t 11), none⟩, ⟨some 35, .call 171 [.t 32, .t 33, .t 34], none⟩, ⟨some 28, .mov (.t 35), none⟩, ⟨some 36, .ext 0 (.t 28), none⟩, ⟨some 37, .ext 1 (.t 28), none⟩, ⟨some 14, .alloc [.int .u32 0, .int .u32 0, .int .u64 0], none⟩, ⟨none, .store 3 (.t 14) (.t 36), none⟩, ⟨some 15, .mov (.t 37), none⟩]) (.seq (.seq (.reg [⟨some 38, .mov (.t 15), none⟩, ⟨some 39, .bin .neq (.t 38) (.c (.int .i64 0)), none⟩]) (.cond (.t 39) (.seq (.reg [⟨some 40, .build [.int .i64 0, .bool false, .int .i64 0, .int .u32 0, .int .u32 0, .int .u64 0, .int .u64 0, .int .u64 0] [], none⟩, ⟨some 41, .mov (.t 15), none⟩, ⟨some 8, .mov (.c (.int .i64 (-1))), none⟩, ⟨none, .store 8 (.t 9) (.t 40), none⟩, ⟨some 10, .mov (.t 41), none⟩]) .ret) .skip)) (.seq (.dreg [⟨some 43, .mov (.t 0), none⟩, ⟨some 44, .nilck (.t 43), none⟩, ⟨some 45, .faddr 0 (.t 44), none⟩, ⟨some 46, .load 1 false (.t 45), none⟩, ⟨some 47, .nilck (.t 46), none⟩, ⟨some 48, .faddr 6 (.t 47), none⟩, ⟨some 49, .load 1 false (.t 48), none⟩, ⟨some 50, .load 2 true (.t 13), none⟩, ⟨some 51, .load 3 true (.t 14), none⟩, ⟨some 52, .mov (.t 1), none⟩, ⟨some 53, .call 167 [.t 52], none⟩, ⟨some 54, .mov (.t 2), none⟩, ⟨some 55, .call 172 [.t 49, .t 50, .t 51, .t 53, .t 54], none⟩, ⟨some 42, .mov (.t 55), none⟩, ⟨some 56, .ext 0 (.t 42), none⟩, ⟨some 57, .ext 1 (.t 42), none⟩, ⟨some 16, .alloc [.nils, .int .u64 0, .int .u64 0], none⟩, ⟨none, .store 3 (.t 16) (.t 56), none⟩, ⟨some 17, .mov (.t 57), none⟩] [[], [0], [1], [2], [3], [4], [5], [], [], [], [9], [], [6, 7, 8, 10, 11, 10], [12], [13], [13], [], [16, 14, 12, 0, 1, 2, 3, 4, 5, 6, 7, 8, 9, 10, 11, 12, 13, 14, 16], [15, 17, 0, 1, 2, 3, 4, 5, 6, 7, 8, 9, 10, 11, 12, 13, 14, 15, 16, 17]]) (.seq (.seq (.dreg [⟨some 58, .mov (.t 0), none⟩, ⟨some 59, .nilck (.t 58), none⟩, ⟨some 60, .faddr 0 (.t 59), none⟩, ⟨some 61, .load 1 false (.t 60), none⟩, ⟨some 62, .nilck (.t 61), none⟩, ⟨some 63, .faddr 2 (.t 62), none⟩, ⟨some 64, .load 1 false (.t 63), none⟩, ⟨some 65, .mov (.t 0), none⟩, ⟨some 66, .nilck (.t 65), none⟩, ⟨some 67, .faddr 0 (.t 66), none⟩, ⟨some 68, .load 1 false (.t 67), none⟩, ⟨some 69, .nilck (.t 68), none⟩, ⟨some 70, .faddr 0 (.t 69), none⟩, ⟨some 71, .load 1 true (.t 70), none⟩, ⟨some 72, .mov (.t 11), none⟩, ⟨some 73, .call 166 [.t 71, .t 72], none⟩, ⟨some 74, .faddr 0 (.t 16), none⟩, ⟨some 75, .load 1 false (.t 74), none⟩, ⟨some 76, .call 173 [.t 64, .t 73, .t 75], none⟩, ⟨some 77, .not (.t 76), none⟩] [[], [0], [1], [2], [3], [4], [5], [], [7], [8], [9], [10], [11], [12], [], [13, 14], [], [16], [6, 15, 17, 15], [18]]) (.cond (.t 77) (.seq (.reg [⟨some 78, .build [.int .i64 0, .bool false, .int .i64 0, .int .u32 0, .int .u32 0, .int .u64 0, .int .u64 0, .int .u64 0] [], none⟩, ⟨some 8, .mov (.c (.int .i64 (-1))), none⟩, ⟨none, .store 8 (.t 9) (.t 78), none⟩, ⟨some 10, .mov (.c (.int .i64 7)), none⟩]) .ret) .skip)) (.seq (.dreg [⟨some 79, .mov (.t 11), none⟩, ⟨some 80, .mov (.t 3), none⟩, ⟨some 81, .mov (.t 1), none⟩, ⟨some 82, .load 3 true (.t 14), none⟩, ⟨some 83, .faddr 1 (.t 16), none⟩, ⟨some 84, .load 2 true (.t 83), none⟩, ⟨some 85, .build [.int .i64 0, .bool false, .int .i64 0, .int .u32 0, .int .u32 0, .int .u64 0, .int .u64 0, .int .u64 0] [(0, 1, .c (.int .i64 1)), (1, 1, .t 80), (2, 1, .t 81), (3, 3, .t 82), (6, 2, .t 84)], none⟩, ⟨some 8, .mov (.t 79), none⟩, ⟨none, .store 8 (.t 9) (.t 85), none⟩, ⟨some 10, .mov (.c (.int .i64 0)), none⟩] [[], [], [], [], [], [4], [1, 2, 3, 5], [0, 0], [6, 7, 0, 1, 2, 3, 4, 5, 6, 7], [8, 0, 1, 2, 3, 4, 5, 6, 7, 8]]) .ret)))))))
theorem is_cache_Cache_lay : FnIs Tryz.prog 134 86 c_cache_Cache_lay [.t 8, .cell 9 8 true, .t 10] := ⟨Tryz.f134, _, Tryz.func134, rfl, rfl, by kernel_rfl, by kernel_rfl⟩

def c_cache_Cache_puts : CC := .seq (.reg [⟨some 5, .box 8 (.t 2), none⟩]) (.seq (.reg [⟨some 7, .mov (.t 0), none⟩, ⟨some 8, .faddr 2 (.t 5), none⟩, ⟨some 9, .load 1 false (.t 8), none⟩, ⟨some 10, .call 129 [.t 7, .t 9], none⟩, ⟨some 6, .mov (.t 10), none⟩]) (.seq (.dreg [⟨some 11, .mov (.t 0), none⟩, ⟨some 12, .nilck (.t 11), none⟩, ⟨some 13, .faddr 2 (.t 12), none⟩, ⟨some 14, .load 1 false (.t 13), none⟩, ⟨some 15, .mov (.t 1), none⟩, ⟨some 16, .load 8 true (.t 5), none⟩, ⟨some 17, .iaddr 8 (.t 14) (.t 15), none⟩, ⟨none, .store 8 (.t 17) (.t 16), none⟩] [[], [0], [1], [2], [], [], [3, 4, 0, 1, 2, 3, 4, 5], [6, 5, 0, 1, 2, 3, 4, 5]]) (.seq (.reg [⟨some 18, .mov (.t 0), none⟩, ⟨some 19, .nilck (.t 18), none⟩, ⟨some 20, .faddr 4 (.t 19), none⟩, ⟨some 21, .load 1 false (.t 20), none⟩, ⟨some 22, .mov (.t 1), none⟩, ⟨some 23, .call 55 [.t 21, .t 22], none⟩]) (.seq (.reg [⟨some 24, .mov (.t 6), none⟩, ⟨some 25, .bin .geq (.t 24) (.c (.int .i64 0)), none⟩]) (.cond (.t 25) (.reg [⟨some 26, .mov (.t 0), none⟩, ⟨some 27, .mov (.t 6), none⟩, ⟨some 28, .call 174 [.t 26, .t 27], none⟩]) .skip)))))
theorem is_cache_Cache_puts : FnIs Tryz.prog 135 29 c_cache_Cache_puts [] := ⟨Tryz.f135, _, Tryz.func135, rfl, rfl, by kernel_rfl, by kernel_rfl⟩

def c_cache_Cache_room : CC := .seq (.reg [⟨some 2, .mov (.c (.int .i64 0)), none⟩]) (.seq (.seq (.reg [⟨some 4, .mov (.t 0), none⟩, ⟨some 5, .call 132 [.t 4], none⟩, ⟨some 6, .bin .geq (.t 5) (.c (.int .i64 0)), none⟩]) (.cond (.t 6) (.seq (.reg [⟨some 2, .mov (.c (.int .i64 0)), none⟩]) .ret) .skip)) (.seq (.seq (.reg [⟨some 7, .mov (.t 0), none⟩, ⟨some 8, .call 125 [.t 7], none⟩, ⟨some 3, .mov (.t 8), none⟩]) (.seq (.reg [⟨some 9, .mov (.t 3), none⟩, ⟨some 10, .bin .neq (.t 9) (.c (.int .i64 0)), none⟩]) (.cond (.t 10) (.seq (.reg [⟨some 11, .mov (.t 3), none⟩, ⟨some 2, .mov (.t 11), none⟩]) .ret) .skip))) (.seq (.seq (.reg [⟨some 12, .mov (.t 0), none⟩, ⟨some 13, .call 132 [.t 12], none⟩, ⟨some 14, .bin .geq (.t 13) (.c (.int .i64 0)), none⟩]) (.cond (.t 14) (.seq (.reg [⟨some 2, .mov (.c (.int .i64 0)), none⟩]) .ret) .skip)) (.seq (.reg [⟨some 15, .mov (.t 0), none⟩, ⟨some 16, .call 175 [.t 15], none⟩, ⟨some 2, .mov (.t 16), none⟩]) .ret))))
theorem is_cache_Cache_room : FnIs Tryz.prog 136 17 c_cache_Cache_room [.t 2] := ⟨Tryz.f136, _, Tryz.func136, rfl, rfl, by kernel_rfl, by kernel_rfl⟩

def c_slices_IndexFuncapi_Leaf_api_Leaf : CC := .seq (.reg [⟨some 4, .mov (.c (.int .i64 0)), none⟩]) (.seq (.seq (.reg [⟨some 6, .mov (.t 0), none⟩, ⟨some 7, .len (.t 6), none⟩, ⟨some 8, .mov (.c (.int .i64 0)), none⟩]) (.block 0 (.loop (.seq (.reg [⟨some 9, .bin .lss (.t 8) (.t 7), none⟩]) (.seq (.cond (.t 9) .skip (.exit 0)) (.seq (.block 1 (.seq (.reg [⟨some 10, .mov (.t 8), none⟩, ⟨some 5, .mov (.t 10), none⟩]) (.seq (.reg [⟨some 11, .mov (.t 1), none⟩, ⟨some 12, .mov (.t 0), none⟩, ⟨some 13, .mov (.t 5), none⟩, ⟨some 14, .iaddr 8 (.t 12) (.t 13), none⟩, ⟨some 15, .load 8 true (.t 14), none⟩, ⟨some 16, .callv (.t 11) [.t 15], none⟩]) (.cond (.t 16) (.seq (.reg [⟨some 17, .mov (.t 5), none⟩, ⟨some 4, .mov (.t 17), none⟩]) .ret) .skip)))) (.reg [⟨some 18, .bin .add (.t 8) (.c (.int .i64 1)), none⟩, ⟨some 8, .mov (.t 18), none⟩]))))))) (.seq (.reg [⟨some 4, .mov (.c (.int .i64 (-1))), none⟩]) .ret))
theorem is_slices_IndexFuncapi_Leaf_api_Leaf : FnIs Tryz.prog 164 19 c_slices_IndexFuncapi_Leaf_api_Leaf [.t 4] := ⟨Tryz.f164, _, Tryz.func164, rfl, rfl, by kernel_rfl, by kernel_rfl⟩

def c_cache_Cache_slot_1 : CC := .seq (.reg [⟨some 2, .box 8 (.t 0), none⟩, ⟨some 3, .mov (.c (.bool false)), none⟩]) (.seq (.reg [⟨some 4, .faddr 0 (.t 2), none⟩, ⟨some 5, .load 1 false (.t 4), none⟩, ⟨some 6, .bin .neq (.t 5) (.c (.int .i64 0)), none⟩, ⟨some 7, .mov (.t 6), none⟩, ⟨some 8, .faddr 2 (.t 2), some (7, true)⟩, ⟨some 9, .load 1 false (.t 8), some (7, true)⟩, ⟨some 10, .load 1 false (.t 1), some (7, true)⟩, ⟨some 11, .bin .eql (.t 9) (.t 10), some (7, true)⟩, ⟨some 12, .pick (.t 7) (.t 11) (.c (.bool false)), none⟩, ⟨some 3, .mov (.t 12), none⟩]) .ret)
theorem is_cache_Cache_slot_1 : FnIs Tryz.prog 165 13 c_cache_Cache_slot_1 [.t 3] := ⟨Tryz.f165, _, Tryz.func165, rfl, rfl, by kernel_rfl, by kernel_rfl⟩

def c_geom_Geom_Data : CC := .seq (.reg [⟨some 2, .box 1 (.t 0), none⟩, ⟨some 4, .mov (.c (.int .i64 0)), none⟩]) (.seq (.seq (.reg [⟨some 5, .load 1 true (.t 2), none⟩, ⟨some 6, .mov (.t 1), none⟩, ⟨some 7, .faddr 0 (.t 2), none⟩, ⟨some 8, .load 1 false (.t 7), none⟩, ⟨some 9, .call 111 [.t 5, .t 6, .t 8], none⟩, ⟨some 10, .not (.t 9), none⟩]) (.cond (.t 10) (.seq (.reg [⟨some 4, .mov (.c (.int .i64 (-1))), none⟩]) .ret) .skip)) (.seq (.reg [⟨some 11, .mov (.t 1), none⟩, ⟨some 12, .bin .mul (.t 11) (.c (.int .i64 32)), none⟩, ⟨some 4, .mov (.t 12), none⟩]) .ret))
theorem is_geom_Geom_Data : FnIs Tryz.prog 166 13 c_geom_Geom_Data [.t 4] := ⟨Tryz.f166, _, Tryz.func166, rfl, rfl, by kernel_rfl, by kernel_rfl⟩

def c_cache_head : CC := .seq (.reg [⟨some 2, .mov (.c .nils), none⟩]) (.seq (.reg [⟨some 3, .mov (.t 0), none⟩, ⟨some 4, .conv .u64 (.t 3), none⟩, ⟨some 5, .call 105 [.t 4, .c (.int .i64 2)], none⟩, ⟨some 2, .mov (.t 5), none⟩]) .ret)
theorem is_cache_head : FnIs Tryz.prog 167 6 c_cache_head [.t 2] := ⟨Tryz.f167, _, Tryz.func167, rfl, rfl, by kernel_rfl, by kernel_rfl⟩

def c_cache_Cache_isFree : CC := .seq (.reg [⟨some 4, .mov (.c (.bool false)), none⟩]) (.seq (.reg [⟨some 5, .mov (.t 0), none⟩, ⟨some 6, .nilck (.t 5), none⟩, ⟨some 7, .faddr 2 (.t 6), none⟩, ⟨some 8, .load 1 false (.t 7), none⟩, ⟨some 9, .mov (.t 1), none⟩, ⟨some 10, .iaddr 8 (.t 8) (.t 9), none⟩, ⟨some 11, .faddr 0 (.t 10), none⟩, ⟨some 12, .load 1 false (.t 11), none⟩, ⟨some 13, .bin .eql (.t 12) (.c (.int .i64 0)), none⟩, ⟨some 14, .mov (.t 13), none⟩, ⟨some 15, .mov (.t 0), some (14, true)⟩, ⟨some 16, .nilck (.t 15), some (14, true)⟩, ⟨some 17, .faddr 3 (.t 16), some (14, true)⟩, ⟨some 18, .load 1 false (.t 17), some (14, true)⟩, ⟨some 19, .mov (.t 1), some (14, true)⟩, ⟨some 20, .iaddr 8 (.t 18) (.t 19), some (14, true)⟩, ⟨some 21, .faddr 0 (.t 20), some (14, true)⟩, ⟨some 22, .load 1 false (.t 21), some (14, true)⟩, ⟨some 23, .bin .eql (.t 22) (.c (.int .i64 0)), some (14, true)⟩, ⟨some 24, .pick (.t 14) (.t 23) (.c (.bool false)), none⟩, ⟨some 4, .mov (.t 24), none⟩]) .ret)
theorem is_cache_Cache_isFree : FnIs Tryz.prog 169 25 c_cache_Cache_isFree [.t 4] := ⟨Tryz.f169, _, Tryz.func169, rfl, rfl, by kernel_rfl, by kernel_rfl⟩

def c_age_queue_Len : CC := .seq (.reg [⟨some 2, .mov (.c (.int .i64 0)), none⟩]) (.seq (.reg [⟨some 3, .mov (.t 0), none⟩, ⟨some 4, .nilck (.t 3), none⟩, ⟨some 5, .faddr 0 (.t 4), none⟩, ⟨some 6, .load 1 false (.t 5), none⟩, ⟨some 7, .len (.t 6), none⟩, ⟨some 2, .mov (.t 7), none⟩]) .ret)
theorem is_age_queue_Len : FnIs Tryz.prog 195 8 c_age_queue_Len [.t 2] := ⟨Tryz.f195, _, Tryz.func195, rfl, rfl, by kernel_rfl, by kernel_rfl⟩

def c_age_queue_Push : CC := .seq (.reg [⟨some 7, .mov (.t 1), none⟩, ⟨some 8, .raw (Ex.asrt 3 true (.int .i64 0) (.t 7)), none⟩, ⟨some 6, .mov (.t 8), none⟩, ⟨some 9, .ext 0 (.t 6), none⟩, ⟨some 10, .ext 1 (.t 6), none⟩, ⟨some 4, .mov (.t 9), none⟩, ⟨some 5, .mov (.t 10), none⟩]) (.reg [⟨some 11, .mov (.t 0), none⟩, ⟨some 12, .mov (.t 0), none⟩, ⟨some 13, .nilck (.t 12), none⟩, ⟨some 14, .faddr 0 (.t 13), none⟩, ⟨some 15, .load 1 false (.t 14), none⟩, ⟨some 16, .mov (.t 4), none⟩, ⟨some 17, .bsl 1 [.t 16], none⟩, ⟨some 18, .app 1 8 (.t 15) (.t 17), none⟩, ⟨some 19, .nilck (.t 11), none⟩, ⟨some 20, .faddr 0 (.t 19), none⟩, ⟨none, .store 1 (.t 20) (.t 18), none⟩])
theorem is_age_queue_Push : FnIs Tryz.prog 216 21 c_age_queue_Push [] := ⟨Tryz.f216, _, Tryz.func216, rfl, rfl, by kernel_rfl, by kernel_rfl⟩

end Go.Proofs.YtafkhpjnihnfpaaGreat


namespace Go.Abs
open Go
section
variable {P : Program} {N : Nat} {e : Env} {h : AHeap} {m : Inj} {w : World} {nm : Nat}
theorem cx_clr {o : Oper} {sz : Nat} {zs : List AV} {x : Opd} (hc : compileX P N o = some (.clr sz zs x)) : ∃ c xo t el i z, o.op = .call c ∧ c.callee = .builtin .clear ∧ c.args.toList = [xo] ∧ c.argTypes[0]? = some t ∧ P.underlying t = some (.slice el) ∧ ofOpd N xo = some x ∧ P.info? el = some i ∧ i.zero = some z ∧ ofL ofV z.cells.toList = some zs ∧ sz = i.size := by
  obtain ⟨c, hop⟩ := cx_call hc trivial
  simp only [compileX, hop] at hc
  split at hc
  case h_4 hcal =>
    repeat' split at hc
    all_goals first
      | (cases hc; exact ⟨_, _, _, _, _, _, hop, hcal, ‹_›, ‹_›, ‹_›, ‹_›, ‹_›, ‹_›, ‹_›, rfl⟩)
      | (cases hc; done)
  all_goals
    (repeat' split at hc
     all_goals (cases hc; done))
theorem XOK.clr {sz : Nat} {zs : List AV} {x : Opd} {id off n : Nat} {c : List (List AV)} (hx : ev e x = some (.ref id off n)) (hg : h.get id = some (.mem sz c)) (hz : zs.length = sz) (h0 : 0 < sz) : XOK P N (.clr sz zs x) e h (some (.tup [])) (.set id (.mem sz (c.take off ++ List.replicate n zs ++ c.drop (off + n)))) := by
  intro o hc e2 hs m w act hr he
  obtain ⟨cl, xo, t, el, i, z, hop, hcal, ha, hat, hu, h1, hinf, hzz, hzs, rfl⟩ := cx_clr hc
  have hx2 : ev e2 x = some (.ref id off n) := (ev_congr fun s h => hs s (by simp [xslots, h])).trans hx
  have ha' : cl.args = #[xo] := by rw [← Array.toArray_toList (xs := cl.args), ha]
  have e1 := he.eval h1 hx2
  generalize hcx : act.eval xo = cx at e1
  obtain ⟨q1, q2, q3⟩ := ofL_ofV (m := m) (h := h) (w := w) hzs
  have hsz : z.cells.size = i.size := by rw [← hz]; simpa using q1.symm
  cases e1 with
  | ref _ _ _ cap a hu' hcp hra =>
    obtain ⟨b, hmb, hle, had, cc, T, hcc, hsz2⟩ := hra _ _ hg
    obtain ⟨b', cc', T', p1, p2, p3, p4⟩ := hr.obj _ _ hg
    rw [hmb] at p1; cases p1
    rw [p2] at hcc; cases hcc
    have hcl : (c.take off ++ List.replicate n zs ++ c.drop (off + n)).length = c.length := by simp; omega
    rcases Nat.eq_zero_or_pos n with hn0 | hn0
    · subst hn0
      have hcc2 : c.take off ++ List.replicate 0 zs ++ c.drop (off + 0) = c := by simp
      rw [hcc2]
      refine ⟨m, w, by show HR m (h.set id _) w; rw [set_same hg]; exact hr, by show Step m h w m (h.set id _) w; rw [set_same hg]; exact Step.refl _ _ _, .tuple #[], ?_, .tup _ _ rfl (by simp)⟩
      simp [execOp, hop, resolve, hcal, ha', invoke, builtin, Builtin.clear_, hat, hcx, run_underlying hu]
    · rcases had with h00 | rfl
      · omega
      · have hmul : (off + n) * i.size ≤ c.length * i.size := Nat.mul_le_mul_right _ hle
        rw [Nat.add_mul] at hmul
        have hzl : (Builtin.zeroCells z.cells n).toList.length = n * i.size := by rw [Array.length_toList, size_zeroCells, hsz]
        have hone : ∀ u ∈ (Builtin.zeroCells z.cells n).toList, u.oneCell' = true := by
          intro u hu2
          obtain ⟨k, hk, rfl⟩ := List.mem_iff_getElem.1 hu2
          rw [hzl] at hk
          have hg2 := zeroCells_get (z := z.cells) (n := n) (k := k) (by rw [hsz]; exact hk)
          have hg3 : (Builtin.zeroCells z.cells n)[k]? = some (Builtin.zeroCells z.cells n).toList[k] := by rw [← Array.getElem?_toList, List.getElem?_eq_getElem]
          rw [hg3] at hg2
          have hm2 : k % z.cells.size < z.cells.size := Nat.mod_lt _ (by omega)
          have hlt : k % z.cells.size < zs.length := by omega
          have := q3 (k % z.cells.size) _ (List.getElem?_eq_getElem hlt)
          have hv2 : z.cells.toList.getD (k % z.cells.size) undef = z.cells.getD (k % z.cells.size) undef := by simp [Array.getD_eq_getD_getElem?, List.getD_eq_getElem?_getD]
          rw [Option.some.inj hg2, ← hv2]
          exact this.scalar_one (q2 _ (List.getElem_mem hlt))
        have hst := run_storeCells_at P b (off * i.size) T (Builtin.zeroCells z.cells n).toList 0 cc w p2 (by rw [hzl]; omega) hone
        simp only [Nat.add_zero] at hst
        generalize hnew : (cc.toList.take (off * i.size) ++ (Builtin.zeroCells z.cells n).toList ++ cc.toList.drop (off * i.size + (Builtin.zeroCells z.cells n).toList.length)).toArray = c2 at hst
        have hsz' : c2.size = cc.size := by rw [← hnew]; simp only [List.size_toArray, List.length_append, List.length_take, List.length_drop, hzl, Array.length_toList]; omega
        have hget : ∀ k, c2.getD k undef = if off * i.size ≤ k ∧ k < off * i.size + n * i.size then (Builtin.zeroCells z.cells n).toList.getD (k - off * i.size) undef else cc.getD k undef := by
          intro k
          rw [← hnew, getD_splice cc _ _ (by rw [hzl]; omega), hzl]
        have hrow : RowF m h w i.size (c.take off ++ List.replicate n zs ++ c.drop (off + n)) (fun k => c2.getD k undef) := by
          have r1 := p4.take off
          have r2 : RowF m h w i.size (List.replicate n zs) (fun k => c2.getD (off * i.size + k) undef) := rowF_zero hzs hsz h0 fun k hk => by
            rw [hget, if_pos ⟨by omega, by omega⟩, Nat.add_sub_cancel_left]
            have hg2 := zeroCells_get (z := z.cells) (n := n) (k := k) (by rw [hsz]; exact hk)
            rw [List.getD_eq_getElem?_getD, Array.getElem?_toList, hg2, hsz]; rfl
          have r3 := p4.drop (off + n)
          have r12 := RowF.append r1 r2
          have hl1 : (c.take off).length = off := by simp; omega
          have hl12 : (c.take off ++ List.replicate n zs).length = off + n := by simp; omega
          refine (RowF.append r12 r3).congr fun k hk => ?_
          rw [hl12, hl1, Nat.add_mul]
          rw [hcl] at hk
          by_cases k1 : k < off * i.size + n * i.size
          · rw [if_pos k1]
            by_cases k2 : k < off * i.size
            · rw [if_pos k2, hget, if_neg (by omega)]
            · rw [if_neg k2, show off * i.size + (k - off * i.size) = k by omega]
          · rw [if_neg k1, hget, if_neg (by omega)]
            congr 1; omega
        obtain ⟨r1, r2⟩ := write_row hr hg hmb p2 hsz' hcl p3 hrow
        refine ⟨_, _, r1, r2, .tuple #[], ?_, .tup _ _ rfl (by simp)⟩
        obtain ⟨n', rfl⟩ : ∃ n', n = n' + 1 := ⟨n - 1, by omega⟩
        simp [execOp, hop, resolve, hcal, ha', invoke, builtin, Builtin.clear_, hat, hcx, run_underlying hu, zeroValue, run_typeInfo' hinf, hzz, hst]
end
end Go.Abs


namespace Go.Abs
open Go
section
variable {P : Program} {N : Nat} {e : Env} {h : AHeap} {m : Inj} {w : World} {nm : Nat}
theorem cx_mkif {o : Oper} {t : Nat} {x : Opd} (hc : compileX P N o = some (.mkif t x)) : ∃ xo u, o.op = .makeInterface t xo ∧ P.underlying t = some u ∧ (∀ ms, u ≠ .interface ms) ∧ ofOpd N xo = some x := by
  cases hop : o.op <;> simp only [compileX, hop] at hc <;> try (cases hc; done)
  case makeInterface t2 xo =>
    split at hc
    · cases hc
    · rename_i u hn hu hx
      cases hc
      exact ⟨_, _, rfl, ‹_›, fun ms e => by subst e; exact hn _ rfl, ‹_›⟩
    · cases hc
  all_goals
    (repeat' split at hc
     all_goals first
       | (cases hc; done)
       | (rw [Option.map_eq_some_iff] at hc; obtain ⟨_, _, h⟩ := hc; cases h; done)
       | contradiction)
theorem XOK.mkif {t : Nat} {x : Opd} {v : AV} (hx : ev e x = some v) : XOK P N (.mkif t x) e h (some (.iface t v)) .none := by
  intro o hc e2 hs m w a hr he
  obtain ⟨xo, u, hop, hu, hn, h1⟩ := cx_mkif hc
  have hx2 : ev e2 x = some v := (ev_congr fun s h => hs s (by simp [xslots, h])).trans hx
  have e1 := he.eval h1 hx2
  refine OpOK.pure hr (cv := .iface t (a.eval xo)) ?_ (.iface _ _ _ e1)
  simp only [execOp, hop, Instr.makeInterface, Sem.run_bind, run_underlying hu, Result.andThen_ok]
  cases u <;> first | rfl | exact absurd rfl (hn _)
theorem cx_asrt {o : Oper} {t : Nat} {ok : Bool} {z : AV} {x : Opd} (hc : compileX P N o = some (.asrt t ok z x)) : ∃ xo xt k, o.op = .typeAssert xo xt t ok ∧ P.underlying t = some (.int k) ∧ ofOpd N xo = some x := by
  cases hop : o.op <;> simp only [compileX, hop] at hc <;> try (cases hc; done)
  case typeAssert xo xt t2 ok2 =>
    repeat' split at hc
    all_goals first
      | (cases hc; exact ⟨_, _, _, rfl, ‹_›, ‹_›⟩)
      | (cases hc; done)
  all_goals
    (repeat' split at hc
     all_goals first
       | (cases hc; done)
       | (rw [Option.map_eq_some_iff] at hc; obtain ⟨_, _, h⟩ := hc; cases h; done)
       | contradiction)
theorem XOK.asrt {t : Nat} {z : AV} {x : Opd} {v : AV} (hx : ev e x = some (.iface t v)) : XOK P N (.asrt t true z x) e h (some (.tup [v, .bool true])) .none := by
  intro o hc e2 hs m w a hr he
  obtain ⟨xo, xt, k, hop, hu, h1⟩ := cx_asrt hc
  have hx2 : ev e2 x = some (.iface t v) := (ev_congr fun s h => hs s (by simp [xslots, h])).trans hx
  have e1 := he.eval h1 hx2
  generalize hcx : a.eval xo = cx at e1
  cases e1 with
  | iface _ _ c q =>
    refine OpOK.pure hr (cv := .tuple #[c, .bool true]) ?_ (.tup _ _ rfl fun i v hi => ?_)
    · simp [execOp, hop, Instr.typeAssert, Sem.run_bind, run_underlying hu, hcx]
    · rcases i with _ | _ | i
      · cases hi; exact q
      · cases hi; exact .bool _
      · simp at hi
/-- The method of a dynamic type, by its name: a pointer's own. -/
def methF (P : Program) (t : Nat) (nm : String) : Option Nat :=
  match P.info? t, P.underlying t with
  | some i, some (.pointer _) => match i.methods.find? (·.name == nm) with
    | some m => if m.path.toList.isEmpty then match m.func with
      | some (f, true) => some f
      | _ => none
      else none
    | none => none
  | _, _ => none
theorem run_method {t f : Nat} {s : String} (hm : methF P t s = some f) (fuel : Nat) (v : Value) (w : World) : (method (fuel + 1) t v s).run P w = .ok (f, v) w := by
  unfold methF at hm
  split at hm
  · rename_i i q hi hu
    split at hm
    · rename_i mt hmt
      split at hm
      · rename_i hp
        split at hm
        · rename_i g hg
          cases hm
          have hp2 : mt.path.toList = [] := by simpa using hp
          simp [method, run_typeInfo' hi, hmt, hp2, follow, hg, receiverAt, run_underlying hu, Place.get]
        · cases hm
      · cases hm
    · cases hm
  · cases hm
theorem cx_inv {o : Oper} {s : String} {x : Opd} {xs : List Opd} (hc : compileX P N o = some (.inv s x xs)) : ∃ c xo, o.op = .call c ∧ c.callee = .invoke xo s ∧ ofOpd N xo = some x ∧ ofL (ofOpd N) c.args.toList = some xs := by
  obtain ⟨c, hop⟩ := cx_call hc trivial
  simp only [compileX, hop] at hc
  repeat' split at hc
  all_goals first
    | (cases hc; exact ⟨_, _, hop, ‹_›, ‹_›, ‹_›⟩)
    | (cases hc; done)
/-- A call of an interface value's method. -/
theorem FX.inv {h' : AHeap} {d : Option Nat} {f t : Nat} {s : String} {x : Opd} {xs : List Opd} {g : Option (Nat × Bool)} {v : AV} {vs : List AV} {r : AV} (hx : ev e x = some (.iface t v)) (hv : evL e xs = some vs) (hg : met e g) (hm : methF P t s = some f) (hb : bodied P f = true) (hac : AE P f (v :: vs) h r h') : FX P N ⟨d, .raw (.inv s x xs), g⟩ e h (some r) h' := by
  intro ops i o ho hc e2 hs m w a K Q hr he hk
  have hraw := compI_raw hc rfl
  rcases compI_ok hc with ⟨hb1, hb2⟩ | ⟨hd, hdst, _, hgd⟩
  · cases hb1
  · obtain ⟨w1, w2⟩ := wanted_of he hgd
    have hi : ∀ s2 ∈ xslots (.inv s x xs), lk s2 e2 = lk s2 e := fun s2 h => hs s2 (by unfold cslots; split <;> simp [islots, h])
    have hw : Region.wanted o (yielded ops a.tmps) = true := by
      cases g with
      | none => exact w1 rfl
      | some sb =>
        obtain ⟨s2, b⟩ := sb
        have hl : lk s2 e2 = some (.bool b) := (hs s2 (by simp [cslots])).trans hg
        rw [w2 s2 b b rfl hl]; simp
    simp only [wpOp, ho]
    rw [if_pos hw]
    left
    obtain ⟨c, y, hop, hcal, hy, hxs⟩ := cx_inv hraw
    have hi1 : ∀ s2 ∈ lslots xs, lk s2 e2 = lk s2 e := fun s2 h => hi s2 (by unfold xslots; simp [h])
    have hi2 : ∀ s2 ∈ oslots x, lk s2 e2 = lk s2 e := fun s2 h => hi s2 (by unfold xslots; simp [h])
    obtain ⟨hl1, hl2⟩ := he.evalL hxs ((evL_congr hi1).trans hv)
    have hfv := he.eval hy ((ev_congr hi2).trans hx)
    generalize hcx : a.eval y = cx at hfv
    cases hfv with
    | iface _ _ cv q =>
      have hx1 : ∀ (u : Value) (X : Array Value), (#[u] ++ X)[0]? = some u := fun u X => by rw [Array.getElem?_append_left (by simp)]; rfl
      have hx2 : ∀ (u : Value) (X : Array Value), (#[u] ++ X).extract 1 (#[u] ++ X).size = X := fun u X => by
        apply Array.ext'
        simp
      have hx3 : P.types.size + Made.depth = (P.types.size + 99) + 1 := rfl
      have hrun : (execOp a.eval o).run P w = .ok (.enter f (#[cv] ++ c.args.map a.eval)) w := by
        simp only [execOp, hop, resolve, hcal, hcx, Sem.run_bind, Sem.run_pure, Result.andThen_ok, invoke, hx1, hx2, callMethod, run_program, hx3, run_method hm, run_callFunc hb]
      refine call_wp hrun hr (by have : vs.length = c.args.size := by simpa using hl1
                                 simp; omega) (fun j v2 hj => ?_) hac fun v2 w' m' r1 h1 g1 g2 g3 ⟨g4, g5⟩ => ?_
      · simp only [Array.getD_eq_getD_getElem?]
        rcases j with _ | j
        · cases hj
          rw [hx1]
          exact q
        · have := hl2 j v2 (by simpa using hj)
          rw [Array.getElem?_append_right (by simp)]
          simpa [List.getD_eq_getElem?_getD] using this
      · subst g4; subst g5
        refine hk m' w' _ g1 ?_ g3
        have hd' : d = o.dst := hd
        show ER N m' h1 w' (putR d (some r1) e2) _
        rw [hd']
        exact (he.step g3).putR hdst g2
/-- What is live is used. -/
theorem WW.live {c : CC} {Q : Exit → Env → AHeap → Prop} (k : (∀ id x, h.get id = some x → h.used id) → WW P N c Q e h) : WW P N c Q e h := ⟨fun code hc m w a hr he => (k hr.live).out code hc m w a hr he⟩
theorem WL.live {l : List CI} {Q : Exit → Env → AHeap → Prop} (k : (∀ id x, h.get id = some x → h.used id) → WL P N l Q e h) : WL P N l Q e h := ⟨fun ops idx h1 h2 m w a hr he => (k hr.live).out ops idx h1 h2 m w a hr he⟩
end
end Go.Abs


namespace Go.Proofs.YtafkhpjnihnfpaaGreat
open Go Go.Abs

def encSl (n : Nat) : List AV := [.int .i64 n]
/-- Ages: when each was used last, ticks, the queue's slots. -/
structure AgS where
  last : List Int
  ticks : Int
  arr : List Nat
def ag0 : AgS := ⟨List.replicate 16 0, 0, []⟩
def AgS.row (s : AgS) (q : Nat) : List AV := s.last.map (.int .i64 ·) ++ [.int .i64 s.ticks, .ptr q 0 0]
/-- The queue's slots, at E if there are any. -/
def SlV (h : AHeap) (v : AV) (arr : List Nat) (E : Nat) : Prop := (v = .nils ∧ arr = []) ∨ (v = .ref E 0 arr.length ∧ BoxAt h E (.mem 1 (arr.map encSl)) ∧ arr ≠ [])
def agF (a : Nat) : AV := .func (.func 81) [.ptr a 0 0] []
structure AgAt (h : AHeap) (a q E : Nat) (s : AgS) : Prop where
  ob : BoxAt h a (.mem 18 [s.row q])
  qo : ∃ v, SlV h v s.arr E ∧ BoxAt h q (.mem 2 [[v, agF a]])
/-- A row of leaves: at E if it may be written. -/
def RowV (h : AHeap) (v : AV) (lv : List Lf) (E : Nat) : Prop := v = .imm 8 (lv.map encL) ∨ (v = .ref E 0 lv.length ∧ BoxAt h E (.mem 8 (lv.map encL)))
/-- A cache's names. -/
structure CaN where
  w : WN
  c : Nat
  k : Nat
  a : Nat
  q : Nat
  nE : Nat
  sE : Nat
/-- What a cache is: its world, numbers, leaves as they are and as they were, ages; is it poisoned? -/
structure CaS where
  s : WS
  boot : Int
  j : Nat
  now : List Lf
  was : List Lf
  ag : AgS
  bad : Bool
def CaN.own (n : CaN) (id : Nat) : Prop := id = n.c ∨ id = n.k ∨ id = n.a ∨ id = n.q ∨ id = n.nE ∨ id = n.sE
structure CaG (md : Bool) (h : AHeap) (n : CaN) (x : CaS) : Prop where
  w : WG md h n.w x.s
  mr : BoxAt h n.k (mkO x.boot x.j)
  c : ∃ v, RowV h v x.now n.nE ∧ BoxAt h n.c (.mem 6 [[.ptr (n.w.a + 10) 0 0, .ptr n.k 0 0, v, .imm 8 (x.was.map encL), .ptr n.a 0 0, .bool x.bad]])
  ag : AgAt h n.a n.q n.sE x.ag
  nm : ∀ id, n.own id → ¬ n.w.nm md id
  lt : ∀ id, n.own id → id < h.next
  dj : n.c ≠ n.k ∧ n.c ≠ n.a ∧ n.c ≠ n.q ∧ n.k ≠ n.a ∧ n.k ≠ n.q ∧ n.a ≠ n.q ∧ (n.nE = n.c ∨ (n.nE ≠ n.k ∧ n.nE ≠ n.a ∧ n.nE ≠ n.q)) ∧ (n.sE = n.q ∨ (n.sE ≠ n.k ∧ n.sE ≠ n.a ∧ n.sE ≠ n.c)) ∧ n.nE ≠ n.sE
section
variable {W : Nat → Prop} {md : Bool} {h h' : AHeap} {n : CaN} {x : CaS}
theorem SlV.kp {v : AV} {arr : List Nat} {E : Nat} (hs : SlV h v arr E) (hk : Kp W h h') (hw : ¬ W E) : SlV h' v arr E := hs.imp id fun q => ⟨q.1, q.2.1.kp hk hw, q.2.2⟩
theorem RowV.kp {v : AV} {lv : List Lf} {E : Nat} (hs : RowV h v lv E) (hk : Kp W h h') (hw : ¬ W E) : RowV h' v lv E := hs.imp id fun q => ⟨q.1, q.2.kp hk hw⟩
theorem AgAt.kp {a q E : Nat} {s : AgS} (hs : AgAt h a q E s) (hk : Kp W h h') (h1 : ¬ W a) (h2 : ¬ W q) (h3 : ¬ W E) : AgAt h' a q E s := by
  obtain ⟨h4, v, h5, h6⟩ := hs
  exact ⟨h4.kp hk h1, v, h5.kp hk h3, h6.kp hk h2⟩
theorem CaG.kp (hg : CaG md h n x) (hk : Kp W h h') (h1 : ∀ id, n.w.nm md id → ¬ W id) (h2 : ∀ id, n.own id → ¬ W id) : CaG md h' n x := by
  obtain ⟨g1, g2, ⟨v, g3, g4⟩, g5, g6, g8, g7⟩ := hg
  exact ⟨g1.kp hk h1, g2.kp hk (h2 _ (.inr (.inl rfl))), ⟨v, g3.kp hk (h2 _ (.inr (.inr (.inr (.inr (.inl rfl)))))), g4.kp hk (h2 _ (.inl rfl))⟩, g5.kp hk (h2 _ (.inr (.inr (.inl rfl)))) (h2 _ (.inr (.inr (.inr (.inl rfl))))) (h2 _ (.inr (.inr (.inr (.inr (.inr rfl)))))), g6, fun id hi => Nat.lt_of_lt_of_le (g8 id hi) hk.next, g7⟩
theorem CaG.new (hg : CaG md h n x) (hk : Kp (fun _ => False) h h') : CaG md h' n x := hg.kp hk (fun _ _ h => h) fun _ _ h => h
end
/-- A cache's leaves are a row that may be written. -/
structure CaW (h : AHeap) (n : CaN) (x : CaS) : Prop where
  g : h.get n.c = some (.mem 6 [[.ptr (n.w.a + 10) 0 0, .ptr n.k 0 0, .ref n.nE 0 x.now.length, .imm 8 (x.was.map encL), .ptr n.a 0 0, .bool x.bad]])
  ne : n.nE ≠ n.c
theorem CaW.row {md : Bool} {h : AHeap} {n : CaN} {x : CaS} (hw : CaW h n x) (hg : CaG md h n x) : BoxAt h n.nE (.mem 8 (x.now.map encL)) := by
  obtain ⟨v, q1, q2⟩ := hg.c
  have := hw.g.symm.trans q2.g
  simp only [Option.some.injEq, AObj.mem.injEq, List.cons.injEq, true_and, and_true] at this
  rcases q1 with rfl | ⟨rfl, hb⟩
  · simp at this
  · exact hb
theorem CaW.kp {W : Nat → Prop} {md : Bool} {h h' : AHeap} {n : CaN} {x : CaS} (hw : CaW h n x) (hg : CaG md h n x) (hk : Kp W h h') (h1 : ¬ W n.c) : CaW h' n x := by
  obtain ⟨v, q1, q2⟩ := hg.c
  exact ⟨(hk.get _ q2.u h1).trans hw.g, hw.ne⟩
theorem clo_encL {u : Nat → Prop} (x : Lf) : ∀ v ∈ encL x, Clo u v := by
  intro v hv
  simp only [encL, List.mem_cons, List.not_mem_nil, or_false] at hv
  rcases hv with rfl | rfl | rfl | rfl | rfl | rfl | rfl | rfl <;> first | exact .int _ _ | exact .bool _
theorem slices_CloneL_ae (l : List Lf) (hl : l.length ≤ 1000000) (h : AHeap) : AE Tryz.prog 53 [.imm 8 (l.map encL)] h (.imm 8 (l.map encL)) h := by
  refine AE.pureW is_slices_Cloneapi_Leaf_api_Leaf (by simp) ?_
  unfold c_slices_Cloneapi_Leaf_api_Leaf
  (repeat first | refine WW.seq ?_ | refine WW.reg ?_ | refine WL.nil ?_ | refine WW.skip ?_ | refine WW.block ?_ | refine thenN ?_ | refine blkN ?_); iterate 1 (refine WL.go ?_)
  (repeat first | refine WW.seq ?_ | refine WW.reg ?_ | refine WL.nil ?_ | refine WW.skip ?_ | refine WW.block ?_ | refine thenN ?_ | refine blkN ?_); iterate 1 (refine WL.go ?_)
  refine WL.fq1 (FQ.isnil rfl (by first | exact True.intro | exact rfl)) ?_
  rintro _ h2 ⟨b, rfl, e2, hb⟩
  subst e2
  (repeat first | refine WW.seq ?_ | refine WW.reg ?_ | refine WL.nil ?_ | refine WW.skip ?_ | refine WW.block ?_ | refine thenN ?_ | refine blkN ?_)
  (refine WW.ifB rfl (fun hz1 => ?_) (fun hz1 => ?_))
  · have : l = [] := by simpa using hb hz1
    subst this
    (refine go ?_)
    refine WW.ret (PureQ.finD ?_)
    exact .nil _
  (refine go ?_)
  refine WW.ret (PureQ.finD ?_)
  exact .app _ _ _ _ fun y hy v hv => by
    obtain ⟨z, _, rfl⟩ := List.mem_map.1 hy
    exact clo_encL z v hv
theorem slices_CloneLR_ae {h : AHeap} {E : Nat} {l : List Lf} (hE : h.get E = some (.mem 8 (l.map encL))) (hl : l.length ≤ 1000000) : AE Tryz.prog 53 [.ref E 0 l.length] h (.imm 8 (l.map encL)) h := by
  refine AE.wf fun hwf => ?_
  have h0 := hwf _ _ hE
  refine AE.pureW is_slices_Cloneapi_Leaf_api_Leaf (by simp) ?_
  unfold c_slices_Cloneapi_Leaf_api_Leaf
  (repeat first | refine WW.seq ?_ | refine WW.reg ?_ | refine WL.nil ?_ | refine WW.skip ?_ | refine WW.block ?_ | refine thenN ?_ | refine blkN ?_); iterate 1 (refine WL.go ?_)
  (repeat first | refine WW.seq ?_ | refine WW.reg ?_ | refine WL.nil ?_ | refine WW.skip ?_ | refine WW.block ?_ | refine thenN ?_ | refine blkN ?_); iterate 1 (refine WL.go ?_)
  refine WL.go (hs := Stp.isnil (t := false) rfl rfl (by first | exact True.intro | exact rfl)) ?_
  (repeat first | refine WW.seq ?_ | refine WW.reg ?_ | refine WL.nil ?_ | refine WW.skip ?_ | refine WW.block ?_ | refine thenN ?_ | refine blkN ?_)
  refine WW.condF rfl ?_
  (refine go ?_)
  refine WW.ret (PureQ.finD ?_)
  rw [List.drop_zero, List.take_of_length_le (by simp)]
  exact .app _ _ _ _ fun y hy v hv => by
    obtain ⟨z, _, rfl⟩ := List.mem_map.1 hy
    exact clo_encL z v hv
theorem age_New_ac (h : AHeap) : AC Tryz.prog 54 [] h (fun r h' => ∃ a q, r = .ptr a 0 0 ∧ AgAt h' a q q ag0 ∧ a ≠ q ∧ h.next ≤ a ∧ h.next ≤ q ∧ Kp (fun _ => False) h h') := by
  refine AC.introW is_age_New (by simp) ?_
  unfold c_age_New
  (refine go ?_)
  refine WW.live fun hl => ?_
  have g1 : (((h.put h.next (.mem 18 [List.replicate 17 (AV.int .i64 0) ++ [.nilp]])).put (h.next + 1) (.mem 2 [[.nils, agF h.next]])).set h.next (some (.mem 18 [ag0.row (h.next + 1)]))).get h.next = some (.mem 18 [ag0.row (h.next + 1)]) := gH
  have g2 : (((h.put h.next (.mem 18 [List.replicate 17 (AV.int .i64 0) ++ [.nilp]])).put (h.next + 1) (.mem 2 [[.nils, agF h.next]])).set h.next (some (.mem 18 [ag0.row (h.next + 1)]))).get (h.next + 1) = some (.mem 2 [[.nils, agF h.next]]) := gH
  exact WW.ret ⟨.inl rfl, _, gRES, h.next, h.next + 1, rfl, ⟨⟨hl _ _ g1, g1⟩, _, .inl ⟨rfl, rfl⟩, ⟨hl _ _ g2, g2⟩⟩, by omega, Nat.le_refl _, by omega, (by repeat first | exact Kp.refl | assumption | with_reducible refine Kp.put ?_ (by omega) _ | with_reducible refine Kp.setN ?_ (by omega) _ | with_reducible refine Kp.keep ?_ _ | with_reducible refine Kp.setW ?_ (by rfl) _)⟩
end Go.Proofs.YtafkhpjnihnfpaaGreat


namespace Go.Proofs.YtafkhpjnihnfpaaGreat
open Go Go.Abs

/-- What is loaded where nothing was committed: a row that may be written. -/
theorem commit_Load0_ac {md : Bool} {h : AHeap} {n : WN} {s : WS} {k : Nat} (hg : WG md h n s) (hs : WSt md s k) (hgo : s.pw.gone = false) (hv : s.ct.value = 0) :
    AC Tryz.prog 50 [.ptr (n.a + 10) 0 0] h
      (fun r h' => ∃ E m, r = .tup [.ref E 0 m, .int .i64 0] ∧ (m : Int) = s.n ∧ BoxAt h' E (.mem 8 ((List.replicate m lf0).map encL)) ∧ h.next ≤ E ∧ Kp (fun _ => False) h h') := by
  refine AC.introW is_commit_Load (by simp) ?_
  unfold c_commit_Load
  have hob := hg.w.w
  simp only [wRow] at hob
  have hgg := isG_cases hs.fit.g
  obtain ⟨m, hm⟩ : ∃ m : Nat, s.n = m := ⟨s.n.toNat, by omega⟩
  rw [hm] at hob
  (refine go ?_)
  refine WL.call rfl (by first | exact True.intro | exact rfl) gSL (power_On_ae hg.w.sd.pw) ?_
  rw [hgo]
  (refine go ?_)
  refine WL.call rfl (by first | exact True.intro | exact rfl) gSL (count_Value_ae (p := n.p) hg.w.ct) ?_
  rw [hv]
  (refine go ?_)
  refine WW.live fun hl => ?_
  refine WW.ret ⟨.inl rfl, _, gRES, h.next, m, rfl, hm.symm, ?_, Nat.le_refl _, (by repeat first | exact Kp.refl | assumption | with_reducible refine Kp.put ?_ (by omega) _ | with_reducible refine Kp.setN ?_ (by omega) _ | with_reducible refine Kp.keep ?_ _ | with_reducible refine Kp.setW ?_ (by rfl) _)⟩
  rw [List.map_replicate]
  exact ⟨hl _ _ gH, gH⟩
theorem cache_finish_ae {md : Bool} {h : AHeap} {n : CaN} {x : CaS} (hg : CaG md h n x) (he : x.s.ks.epochs.length < 2) : AE Tryz.prog 56 [.ptr n.c 0 0] h (.int .i64 0) h := by
  obtain ⟨g1, g2, ⟨v, g3, g4⟩, g5, g6, g8, g7⟩ := hg
  have hc := g4.g
  have hob := g1.w.w
  simp only [wRow] at hob
  refine AE.pureW is_cache_Cache_finish (by simp) ?_
  unfold c_cache_Cache_finish
  (refine go ?_)
  refine WL.call rfl (by first | exact True.intro | exact rfl) gSL (keys_Epochs_ae g1.w.ks) ?_
  (refine go ?_)
  (refine WW.ifB rfl (fun hz1 => ?_) (fun hz1 => ?_))
  · (refine go ?_)
    refine WW.ret (PureQ.finD ?_)
    exact fz_i rfl
  · exfalso
    first | (simp at hz1; omega) | omega | (rw [List.length_map] at hz1; omega)
/-- A cache where nothing was committed. -/
def caNew (s : WS) (m : Nat) : CaS := ⟨s.bootS, s.ct.boots + 1, 0, List.replicate m lf0, List.replicate m lf0, ag0, false⟩
set_option maxHeartbeats 4000000 in
theorem cache_Open0W_ac {md : Bool} {h : AHeap} {n : WN} {s : WS} {k : Nat} (hg : WG md h n s) (hs : WSt md s k) (hk : k ≤ 8000) (hf : s.pw.Free) (hv : s.ct.value = 0) (he : s.ks.epochs.length < 2) :
    AC Tryz.prog 26 [.ptr (n.a + 10) 0 0] h
      (fun r h' => ∃ (N : CaN) (m : Nat), r = .tup [.ptr N.c 0 0, .int .i64 0] ∧ N.w = n ∧ (m : Int) = s.n ∧ CaG md h' N (caNew s m) ∧ (∀ id, N.own id → h.next ≤ id) ∧ Kp (n.own md) h h' ∧ CaW h' N (caNew s m)) := by
  refine AC.introW is_cache_Open (by simp) ?_
  unfold c_cache_Open
  have hob := hg.w.w
  simp only [wRow] at hob
  have hna : n.a + 11 ≤ h.next := hg.w.nx
  have hlt : ∀ id, n.nm md id → id < h.next := fun id hi => (hg.us id hi).1
  have hgg := isG_cases hs.fit.g
  obtain ⟨ct1, ct2, ct3⟩ := hs.ct
  (refine go ?_)
  refine WL.call rfl (by first | exact True.intro | exact rfl) gSL (power_On_ae hg.w.sd.pw) ?_
  rw [show s.pw.gone = false from hf.g]
  (refine go ?_)
  refine WL.call rfl (by first | exact True.intro | exact rfl) gSL (boot_ae hg hs (by omega)) ?_
  have hcan := hf.can
  have hbc := boot_ct hf
  refine WL.named (fun h2 => WG md h2 n s.bootS ∧ Kp (n.own md) h h2) ⟨hg.boot, kp_ct n _ _⟩ ?_
  rintro h2 ⟨g2, k2⟩
  have hx2 := k2.next
  have hs2 := hs.boot
  have hf2 : s.bootS.pw.Free := hf.spend
  rw [hcan]
  clear hob
  have hob := g2.w.w
  simp only [wRow] at hob
  (refine go ?_)
  refine WL.callA rfl (by first | exact True.intro | exact rfl) gSL (commit_Load0_ac g2 hs2 hf2.g (by rw [hbc]; exact hv)) ?_
  rintro _ h3 ⟨E, m, rfl, hm, bE, hE, k3⟩
  have hm' : (m : Int) = s.n := hm
  have g3 := g2.new k3
  have hx3 := k3.next
  have hct := g3.w.ct
  rw [hbc] at hct
  clear hob g2
  have hob := g3.w.w
  simp only [wRow] at hob
  (refine go ?_)
  refine WL.call rfl (by first | exact True.intro | exact rfl) gSL (count_Boots_ae (p := n.p) hct) ?_
  (refine go ?_)
  refine WL.call rfl (by first | exact True.intro | exact rfl) gSL (nonce_New_ae rfl (s.ct.boots + 1) (by omega)) ?_
  have hElt : E < h3.next := bE.u.1
  refine WL.named (fun h4 => WG md h4 n s.bootS ∧ Kp (fun _ => False) h3 h4 ∧ BoxAt h4 h3.next (mkO (s.ct.boots + 1) 0) ∧ BoxAt h4 E (.mem 8 ((List.replicate m lf0).map encL))) ⟨g3.new (by repeat first | exact Kp.refl | assumption | with_reducible refine Kp.put ?_ (by omega) _ | with_reducible refine Kp.setN ?_ (by omega) _ | with_reducible refine Kp.keep ?_ _ | with_reducible refine Kp.setW ?_ (by rfl) _), (by repeat first | exact Kp.refl | assumption | with_reducible refine Kp.put ?_ (by omega) _ | with_reducible refine Kp.setN ?_ (by omega) _ | with_reducible refine Kp.keep ?_ _ | with_reducible refine Kp.setW ?_ (by rfl) _), ⟨put_used_nm, gH⟩, bE.kp (W := fun _ => False) (by repeat first | exact Kp.refl | assumption | with_reducible refine Kp.put ?_ (by omega) _ | with_reducible refine Kp.setN ?_ (by omega) _ | with_reducible refine Kp.keep ?_ _ | with_reducible refine Kp.setW ?_ (by rfl) _) (fun h => h)⟩ ?_
  have hmkN : ∀ id, n.nm md id → id < h3.next := fun id hi => by have := hlt id hi; omega
  rintro h4 ⟨g4, k4, b4, e4⟩
  have hx4 := k4.next
  generalize h3.next = mk at *
  have hmk4 : mk < h4.next := b4.u.1
  clear hob g3
  have hob := g4.w.w
  simp only [wRow] at hob
  (refine go ?_)
  have e4' := e4.g
  have hCl := slices_CloneLR_ae e4.g (by simp; omega)
  rw [List.length_replicate] at hCl
  refine WL.call rfl (by first | exact True.intro | exact rfl) gSL (hCl) ?_
  (refine go ?_)
  refine WL.callA rfl (by first | exact True.intro | exact rfl) gSL (age_New_ac _) ?_
  rintro _ h5 ⟨a, q, rfl, ag5, haq, ha, hq, k5⟩
  have hx5 := k5.next
  have hap : a < h5.next := ag5.ob.u.1
  have hqp : q < h5.next := by obtain ⟨v, _, h6⟩ := ag5.qo; exact h6.u.1
  have g5 := g4.new k5
  have b5 := b4.kp k5 (fun h => h)
  have e5 := e4.kp k5 (fun h => h)
  clear hob e4'
  (repeat first | refine WW.seq ?_ | refine WW.reg ?_ | refine WL.nil ?_ | refine WW.skip ?_ | refine WW.block ?_ | refine thenN ?_ | refine blkN ?_); iterate 3 (refine WL.go ?_)
  refine WL.named (fun h6 => CaG md h6 ⟨n, h5.next, mk, a, q, E, q⟩ (caNew s m) ∧ Kp (fun _ => False) h5 h6 ∧ BoxAt h6 E (.mem 8 ((List.replicate m lf0).map encL)) ∧ BoxAt h6 h5.next (.mem 6 [[.ptr (n.a + 10) 0 0, .ptr mk 0 0, .ref E 0 m, .imm 8 ((List.replicate m lf0).map encL), .ptr a 0 0, .bool false]])) ⟨⟨g5.new (by repeat first | exact Kp.refl | assumption | with_reducible refine Kp.put ?_ (by omega) _ | with_reducible refine Kp.setN ?_ (by omega) _ | with_reducible refine Kp.keep ?_ _ | with_reducible refine Kp.setW ?_ (by rfl) _), b5.kp (W := fun _ => False) (by repeat first | exact Kp.refl | assumption | with_reducible refine Kp.put ?_ (by omega) _ | with_reducible refine Kp.setN ?_ (by omega) _ | with_reducible refine Kp.keep ?_ _ | with_reducible refine Kp.setW ?_ (by rfl) _) (fun h => h), ⟨.ref E 0 m, .inr ⟨by simp [caNew], e5.kp (W := fun _ => False) (by repeat first | exact Kp.refl | assumption | with_reducible refine Kp.put ?_ (by omega) _ | with_reducible refine Kp.setN ?_ (by omega) _ | with_reducible refine Kp.keep ?_ _ | with_reducible refine Kp.setW ?_ (by rfl) _) (fun h => h)⟩, ⟨put_used_nm, gH⟩⟩, ag5.kp (W := fun _ => False) (by repeat first | exact Kp.refl | assumption | with_reducible refine Kp.put ?_ (by omega) _ | with_reducible refine Kp.setN ?_ (by omega) _ | with_reducible refine Kp.keep ?_ _ | with_reducible refine Kp.setW ?_ (by rfl) _) (fun h => h) (fun h => h) (fun h => h), ?_, ?_, ?_⟩, (by repeat first | exact Kp.refl | assumption | with_reducible refine Kp.put ?_ (by omega) _ | with_reducible refine Kp.setN ?_ (by omega) _ | with_reducible refine Kp.keep ?_ _ | with_reducible refine Kp.setW ?_ (by rfl) _), e5.kp (W := fun _ => False) (by repeat first | exact Kp.refl | assumption | with_reducible refine Kp.put ?_ (by omega) _ | with_reducible refine Kp.setN ?_ (by omega) _ | with_reducible refine Kp.keep ?_ _ | with_reducible refine Kp.setW ?_ (by rfl) _) (fun h => h), ⟨put_used_nm, gH⟩⟩ ?_
  · intro id hid hn
    have := hlt id hn
    rcases hid with rfl | rfl | rfl | rfl | rfl | rfl <;> (dsimp only at *; omega)
  · intro id hid
    have hL : h5.next < (((h5.put h5.next (.mem 6 [[.ptr (n.a + 10) 0 0, .ptr mk 0 0, .ref E 0 m, .imm 8 ((List.replicate m lf0).map encL), .ptr a 0 0, .bool false]])))).next := (ltN gN (by omega))
    rcases hid with rfl | rfl | rfl | rfl | rfl | rfl <;> first | omega | (dsimp only; omega)
  · dsimp only
    refine ⟨by omega, by omega, by omega, by omega, by omega, haq, .inr ⟨by omega, by omega, by omega⟩, .inl rfl, by omega⟩
  have hc5 : h.next ≤ h5.next := by omega
  generalize h5.next = c at *
  clear g5 b5 e5 ag5 g4 b4 e4 bE
  rintro h6 ⟨g6, k6, e6, c6⟩
  have k7 : Kp (n.own md) h h6 := k2.trans ((k3.trans (k4.trans (k5.trans k6))).mono fun _ _ h => h.elim)
  clear k2 k3 k4 k5 k6
  (refine go ?_)
  refine WW.loopE (fun (i : Nat) => [(7, some (.ptr c 0 0)), (57, some (.ref E 0 m)), (58, some (.int .i64 m)), (59, some (.int .i64 i))])
    (fun i h' => Kp (fun _ => False) h6 h' ∧ i ≤ m) (fun i => m - i) 0 gSUB ⟨Kp.refl, Nat.zero_le _⟩ ?_
  rintro i h7 ⟨k8, hi⟩
  have g7 := g6.new k8
  have hx6 := k8.next
  (refine go ?_)
  (refine WW.ifB rfl (fun hz1 => ?_) (fun hz1 => ?_))
  · have hi2 : i < m := by omega
    have e7 := (e6.kp k8 (fun h => h)).g
    have hlr : (List.replicate m lf0).length = m := by simp
    have hlf : ∀ (j : Nat) (hj : j < (List.replicate m lf0).length), (List.replicate m lf0)[j] = lf0 := fun j hj => List.getElem_replicate _
    (refine go ?_)
    (refine WW.ifB rfl (fun hz2 => ?_) (fun hz2 => ?_))
    · exfalso
      rw [hlf] at hz2
      simp [lf0] at hz2
    (refine go ?_)
    exact ⟨i + 1, gSUB, ⟨(by repeat first | exact Kp.refl | assumption | with_reducible refine Kp.put ?_ (by omega) _ | with_reducible refine Kp.setN ?_ (by omega) _ | with_reducible refine Kp.keep ?_ _ | with_reducible refine Kp.setW ?_ (by rfl) _), by omega⟩, by omega⟩
  · have hi2 : i = m := by omega
    (refine go ?_)
    refine WL.call rfl (by first | exact True.intro | exact rfl) gSL (cache_finish_ae g7 he) ?_
    (refine go ?_)
    exact WW.ret ⟨.inl rfl, _, gRES, ⟨n, c, mk, a, q, E, q⟩, m, rfl, rfl, hm', g7, fun id hid => by rcases hid with rfl | rfl | rfl | rfl | rfl | rfl <;> first | omega | (dsimp only; omega), k7.trans (k8.mono fun _ _ h => h.elim), ⟨by rw [show (caNew s m).now.length = m from List.length_replicate]; exact (c6.kp k8 (fun h => h)).g, by dsimp only; omega⟩⟩
end Go.Proofs.YtafkhpjnihnfpaaGreat


namespace Go.Proofs.YtafkhpjnihnfpaaGreat
open Go Go.Abs

/-- A box: its world, its cache, its copies. -/
def boxO (w : Nat) (c : AV) (snaps : AV) : AObj := .mem 3 [[.ptr w 0 0, c, snaps]]
set_option maxHeartbeats 1000000 in
theorem play_NewW_ac (md : Bool) (m : Nat) (hk : isG m = true) (seed : Int) (h : AHeap) : AC Tryz.prog 12 [.int .i64 m, .int .u64 seed, .bool md] h
    (fun r h' => ∃ (N : CaN) (b : Nat), r = .tup [.ptr b 0 0, .int .i64 0] ∧ CaG md h' N (caNew (ws0 m seed) m) ∧ BoxAt h' b (boxO (N.w.a + 10) (.ptr N.c 0 0) .nils) ∧ (∀ id, N.w.nm md id → h.next ≤ id) ∧ (∀ id, N.own id → h.next ≤ id) ∧ h.next ≤ b ∧ (¬ N.w.nm md b ∧ ¬ N.own b) ∧ Kp (fun id => h.next ≤ id) h h' ∧ CaW h' N (caNew (ws0 m seed) m)) := by
  refine AC.introW is_play_New (by simp) ?_
  unfold c_play_New
  (refine go ?_)
  refine WL.callA rfl (by first | exact True.intro | exact rfl) gSL (world_NewG_ac md m hk seed h) ?_
  rintro _ h1 ⟨n, rfl, g1, hn, k1⟩
  have hx1 := k1.next
  have S0 := wst0 md hk seed
  have hf0 := free_ws0 m seed
  (refine go ?_)
  refine WL.callA rfl (by first | exact True.intro | exact rfl) gSL (cache_Open0W_ac g1 S0 (by omega) hf0 rfl (by simp [ws0])) ?_
  rintro _ h2 ⟨N, m', rfl, rfl, hm', g2, hN, k2, w2⟩
  have hmm : m' = m := by have : (m' : Int) = m := hm'; omega
  subst hmm
  have hx2 := k2.next
  have hNlt := g2.lt
  have hwlt : ∀ id, N.w.nm md id → id < h2.next := fun id hi => (g2.w.us id hi).1
  (refine go ?_)
  refine WW.ret ⟨.inl rfl, _, gRES, N, h2.next, rfl, g2.new (by repeat first | exact Kp.refl | assumption | with_reducible refine Kp.put ?_ (by omega) _ | with_reducible refine Kp.setN ?_ (by omega) _ | with_reducible refine Kp.keep ?_ _ | with_reducible refine Kp.setW ?_ (by rfl) _), ⟨put_used_nm, gH⟩, hn, fun id hi => Nat.le_trans hx1 (hN id hi), by omega, ⟨fun hi => by have := hwlt _ hi; omega, fun hi => by have := hNlt _ hi; omega⟩, ?_, w2.kp (W := fun _ => False) g2 (by repeat first | exact Kp.refl | assumption | with_reducible refine Kp.put ?_ (by omega) _ | with_reducible refine Kp.setN ?_ (by omega) _ | with_reducible refine Kp.keep ?_ _ | with_reducible refine Kp.setW ?_ (by rfl) _) (fun h => h)⟩
  exact k1.trans ((k2.mono fun id _ hi => hn id (.inl (WN.own_all hi))).trans (((by repeat first | exact Kp.refl | assumption | with_reducible refine Kp.put ?_ (by omega) _ | with_reducible refine Kp.setN ?_ (by omega) _ | with_reducible refine Kp.keep ?_ _ | with_reducible refine Kp.setW ?_ (by rfl) _) : Kp (fun _ => False) h2 _).mono fun _ _ h => h.elim))
theorem play_New_ac (md : Bool) (m : Nat) (hk : isG m = true) (seed : Int) (h : AHeap) : AC Tryz.prog 12 [.int .i64 m, .int .u64 seed, .bool md] h
    (fun r h' => ∃ (N : CaN) (b : Nat), r = .tup [.ptr b 0 0, .int .i64 0] ∧ CaG md h' N (caNew (ws0 m seed) m) ∧ BoxAt h' b (boxO (N.w.a + 10) (.ptr N.c 0 0) .nils) ∧ (∀ id, N.w.nm md id → h.next ≤ id) ∧ (∀ id, N.own id → h.next ≤ id) ∧ h.next ≤ b ∧ (¬ N.w.nm md b ∧ ¬ N.own b) ∧ Kp (fun id => h.next ≤ id) h h') :=
  (play_NewW_ac md m hk seed h).mono fun r h' ⟨N, b, q1, q2, q3, q4, q5, q6, q7, q8, _⟩ => ⟨N, b, q1, q2, q3, q4, q5, q6, q7, q8⟩
theorem box_World_ae {h : AHeap} {b : Nat} {w : Nat} {c s : AV} (hb : h.get b = some (.mem 3 [[.ptr w 0 0, c, s]])) (hw : h.used w) : AE Tryz.prog 16 [.ptr b 0 0] h (.ptr w 0 0) h := by
  refine AE.pureW is_play_Box_World (by simp) ?_
  unfold c_play_Box_World
  (refine go ?_)
  refine WW.ret (PureQ.finD ?_)
  exact .clo _ (.ptr _ _ _ hw)
theorem box_Cache_ae {h : AHeap} {b : Nat} {c : Nat} {w s : AV} (hb : h.get b = some (.mem 3 [[w, .ptr c 0 0, s]])) (hw : h.used c) : AE Tryz.prog 17 [.ptr b 0 0] h (.ptr c 0 0) h := by
  refine AE.pureW is_play_Box_Cache (by simp) ?_
  unfold c_play_Box_Cache
  (refine go ?_)
  refine WW.ret (PureQ.finD ?_)
  exact .clo _ (.ptr _ _ _ hw)
end Go.Proofs.YtafkhpjnihnfpaaGreat


namespace Go.Proofs.YtafkhpjnihnfpaaGreat
open Go Go.Abs

theorem cache_Leaves_ae {md : Bool} {h : AHeap} {n : CaN} {x : CaS} (hg : CaG md h n x) (hl : x.now.length ≤ 1000000) : AE Tryz.prog 37 [.ptr n.c 0 0] h (.imm 8 (x.now.map encL)) h := by
  obtain ⟨g1, g2, ⟨v, g3, g4⟩, g5, g6, g8, g7⟩ := hg
  have hc := g4.g
  have hcl : AE Tryz.prog 53 [v] h (.imm 8 (x.now.map encL)) h := by
    rcases g3 with rfl | ⟨rfl, hb⟩
    · exact slices_CloneL_ae _ hl _
    · exact slices_CloneLR_ae hb.g hl
  refine AE.pureW is_cache_Cache_Leaves (by simp) ?_
  unfold c_cache_Cache_Leaves
  (refine go ?_)
  refine WL.call rfl (by first | exact True.intro | exact rfl) gSL (hcl) ?_
  (refine go ?_)
  refine WW.ret (PureQ.finD ?_)
  exact .clo _ (.imm _ _ fun y hy u hu => by
    obtain ⟨z, _, rfl⟩ := List.mem_map.1 hy
    exact clo_encL z u hu)
theorem cache_LeavesN_ae (h : AHeap) : AE Tryz.prog 37 [.nilp] h (.imm 8 []) h := by
  refine AE.pureW is_cache_Cache_Leaves (by simp) ?_
  unfold c_cache_Cache_Leaves
  (refine go ?_)
  refine WW.ret (PureQ.finD ?_)
  exact .nil _
theorem audit_SecretsN_ae (h : AHeap) : AE Tryz.prog 19 [.nilp] h (.imm 1 []) h := by
  refine AE.pureW is_audit_Secrets (by simp) ?_
  unfold c_audit_Secrets
  (refine go ?_)
  refine WW.ret (PureQ.finD ?_)
  exact .nil _
theorem audit_Secrets0_ae {md : Bool} {h : AHeap} {n : WN} {s : WS} (hg : WG md h n s) (hL : s.L = []) : AE Tryz.prog 19 [.ptr (n.a + 10) 0 0] h (.imm 1 []) h := by
  have hob := hg.w.w
  simp only [wRow] at hob
  refine AE.pureW is_audit_Secrets (by simp) ?_
  unfold c_audit_Secrets
  (refine go ?_)
  have hI := lock_IssuedW_ae hg.w.lk (fun _ => hL) (by rw [hL]; simp) (by rw [hL]; simp)
  rw [hL] at hI
  refine WL.call rfl (by first | exact True.intro | exact rfl) gSL (hI) ?_
  (refine go ?_)
  refine WW.loopE (fun (_ : Unit) => [(3, some .nils), (15, some (.int .i64 0)), (16, some (.int .i64 0))]) (fun _ h' => h' = h) (fun _ => 0) () gSUB rfl ?_
  rintro i h' rfl
  (refine go ?_)
  refine WW.ret (PureQ.finD ?_)
  exact .nil _
theorem audit_FreshN_ae (h : AHeap) : AE Tryz.prog 23 [.nilp] h (.bool true) h := by
  refine AE.pureW is_audit_Fresh (by simp) ?_
  unfold c_audit_Fresh
  (refine go ?_)
  refine WW.ret (PureQ.finD ?_)
  exact fz_b rfl
theorem audit_Fresh_ae {h : AHeap} {n : WN} {s : WS} (hg : WG true h n s) (hL : s.L.length ≤ 1000000) : AE Tryz.prog 23 [.ptr (n.a + 10) 0 0] h (.bool (!dupB (s.L.map kn))) h := by
  have hob := hg.w.w
  simp only [wRow] at hob
  refine AE.pureW is_audit_Fresh (by simp) ?_
  unfold c_audit_Fresh
  (refine go ?_)
  refine WL.call rfl (by first | exact True.intro | exact rfl) gSL (lock_TwiceI_ae (hg.w.lk.id rfl) hL) ?_
  (refine go ?_)
  refine WW.ret (PureQ.finD ?_)
  exact fz_b rfl
theorem audit_SoundN_ae (h : AHeap) : AE Tryz.prog 24 [.nilp] h (.bool true) h := by
  refine AE.pureW is_audit_Sound (by simp) ?_
  unfold c_audit_Sound
  (refine go ?_)
  refine WL.call rfl (by first | exact True.intro | exact rfl) gSL (cache_LeavesN_ae _) ?_
  (refine go ?_)
  refine WW.loopE (fun (_ : Unit) => [(9, some (.int .i64 0)), (10, some (.int .i64 0))]) (fun _ h' => Keeps h h') (fun _ => 0) () gSUB gK ?_
  rintro i h' k1
  (refine go ?_)
  refine WW.ret (PureQ.finD ?_)
  exact fz_b rfl
set_option maxHeartbeats 1000000 in
theorem audit_Sound0_ae {md : Bool} {h : AHeap} {n : CaN} {x : CaS} {m : Nat} (hg : CaG md h n x) (hm : x.now = List.replicate m lf0) (hm2 : m ≤ 16) : AE Tryz.prog 24 [.ptr n.c 0 0] h (.bool true) h := by
  refine AE.pureW is_audit_Sound (by simp) ?_
  unfold c_audit_Sound
  (refine go ?_)
  have g2 : CaG md (h.put h.next (.map [])) n x := hg.new (by repeat first | exact Kp.refl | assumption | with_reducible refine Kp.put ?_ (by omega) _ | with_reducible refine Kp.setN ?_ (by omega) _ | with_reducible refine Kp.keep ?_ _ | with_reducible refine Kp.setW ?_ (by rfl) _)
  have hL := cache_Leaves_ae g2 (by rw [hm]; simp; omega)
  rw [hm] at hL
  refine WL.call rfl (by first | exact True.intro | exact rfl) gSL (hL) ?_
  (refine go ?_)
  have hlr : (List.replicate m lf0).length = m := by simp
  have hlf : ∀ (j : Nat) (hj : j < (List.replicate m lf0).length), (List.replicate m lf0)[j] = lf0 := fun j hj => List.getElem_replicate _
  refine WW.loopE (fun (i : Nat) => [(3, some (.map h.next)), (8, some (.imm 8 ((List.replicate m lf0).map encL))), (9, some (.int .i64 m)), (10, some (.int .i64 i))])
    (fun i h' => Keeps h h' ∧ h.next < h'.next ∧ i ≤ m ∧ h'.get h.next = some (.map (if i = 0 then [] else [(.int .i64 0, .bool false)]))) (fun i => m - i) 0 gSUB ⟨gK, (ltN gN (by omega)), Nat.zero_le _, gH⟩ ?_
  rintro i h' ⟨k1, hx, c1, c2⟩
  (refine go ?_)
  (refine WW.ifB rfl (fun hz1 => ?_) (fun hz1 => ?_))
  · have hi : i < m := by omega
    (refine go ?_)
    rw [hlf]
    refine WL.call rfl (by first | exact True.intro | exact rfl) gSL (leaf_Is_ae lf0 i _) ?_
    have hli : leafIs lf0 i = true := by rw [leafIs, if_neg (by omega), if_pos (show lf0.k = 0 from rfl)]; simp
    rw [hli]
    (refine go ?_)
    by_cases h0 : i = 0
    · subst h0
      simp only [if_true] at c2
      refine WL.fx1 (FX.look (r := none) rfl rfl gH trivial rfl rfl (by first | exact True.intro | exact rfl)) ?_
      simp only [lookR, Option.map_none, Option.getD_none, Option.isSome_none, if_true, if_false, Bool.false_eq_true]
      (refine go ?_)
      refine WL.fx0 (FX.mput (r := none) rfl rfl rfl gH trivial rfl (by first | exact True.intro | exact rfl)) ?_
      (refine go ?_)
      exact ⟨1, gSUB, ⟨gK, (ltN gN (by omega)), by omega, gH⟩, by omega⟩
    · rw [if_neg h0] at c2
      refine WL.fx1 (FX.look (r := some (0, .bool false)) rfl rfl gH trivial rfl rfl (by first | exact True.intro | exact rfl)) ?_
      simp only [lookR, Option.map_some, Option.getD_some, Option.isSome_some, if_true, if_false, Bool.false_eq_true]
      (refine go ?_)
      refine WL.fx0 (FX.mput (r := some (0, .bool false)) rfl rfl rfl gH trivial rfl (by first | exact True.intro | exact rfl)) ?_
      (refine go ?_)
      exact ⟨i + 1, gSUB, ⟨gK, (ltN gN (by omega)), by omega, by rw [if_neg (by omega)]; exact gH⟩, by omega⟩
  · (refine go ?_)
    refine WW.ret (PureQ.finD ?_)
    exact fz_b rfl
set_option maxHeartbeats 1000000 in
theorem law30_known_ae (h : AHeap) : AE Tryz.prog 11 [] h (.bool true) h := by
  refine AE.pureW is_law30_known (by simp) ?_
  unfold c_law30_known
  (refine go ?_)
  refine WL.callA rfl (by first | exact True.intro | exact rfl) gSL (play_New_ac true 4 rfl 1 h) ?_
  rintro _ h1 ⟨N, b, rfl, g1, b1, hn, hN, hb, hnb, k1⟩
  have hbg := b1.g
  simp only [boxO] at hbg
  have hL : (caNew (ws0 4 1) 4).s.L = [] := rfl
  have hw := g1.w.us (N.w.a + 10) (.inl (.inr (.inr (.inl (by omega)))))
  have hc : h1.used N.c := by obtain ⟨_, _, ⟨v, _, q⟩, _⟩ := g1; exact q.u
  have hF := audit_Fresh_ae g1.w (by rw [hL]; simp)
  rw [hL] at hF
  (refine go ?_)
  refine WL.call rfl (by first | exact True.intro | exact rfl) gSL (box_World_ae hbg hw) ?_
  (refine go ?_)
  refine WL.call rfl (by first | exact True.intro | exact rfl) gSL (audit_Secrets0_ae g1.w hL) ?_
  (refine go ?_)
  refine WL.call rfl (by first | exact True.intro | exact rfl) gSL (box_World_ae hbg hw) ?_
  (refine go ?_)
  refine WL.call rfl (by first | exact True.intro | exact rfl) gSL (hF) ?_
  (refine go ?_)
  refine WL.call rfl (by first | exact True.intro | exact rfl) gSL (box_Cache_ae hbg hc) ?_
  (refine go ?_)
  refine WL.call rfl (by first | exact True.intro | exact rfl) gSL (audit_Sound0_ae g1 rfl (by decide)) ?_
  (refine go ?_)
  refine WL.call rfl (by first | exact True.intro | exact rfl) gSL (audit_SoundN_ae _) ?_
  (refine go ?_)
  refine WL.call rfl (by first | exact True.intro | exact rfl) gSL (audit_FreshN_ae _) ?_
  (refine go ?_)
  refine WL.call rfl (by first | exact True.intro | exact rfl) gSL (audit_SecretsN_ae _) ?_
  (refine go ?_)
  have k2 := k1.keeps (fun _ h => h)
  refine WW.ret (PureQ.finD ?_)
  exact fz_b rfl
end Go.Proofs.YtafkhpjnihnfpaaGreat


namespace Go.Abs
open Go
section
variable {P : Program} {N : Nat} {e e' : Env} {h h' : AHeap} {l : List CI} {es : List (List Nat)} {Q : Exit → Env → AHeap → Prop}
/-- Operations in one row, each by what holds behind it. -/
def RunL (P : Program) (N : Nat) (Q : Exit → Env → AHeap → Prop) : List CI → Env → AHeap → Prop
  | [], e, h => Q .normal e h
  | c :: l, e, h => FXR P N c e h (fun r h2 => RunL P N Q l (putR c.d r e) h2)
theorem RunL.call {d : Option Nat} {f : Nat} {xs : List Opd} {g : Option (Nat × Bool)} {us vs : List AV} {R : AV → AHeap → Prop} (hv : evL e xs = some us) (hg : met e g) (hs : SubL us vs) (hac : AC P f vs h R) (k : ∀ r h', R r h' → RunL P N Q l (putR d (some r) e) h') : RunL P N Q (⟨d, .call f xs, g⟩ :: l) e h :=
  FXR.call hv hg hs hac k
theorem RunL.go {c : CI} (k : RunL P N Q l e' h') (hs : Stp c e h e' h' := by exact Stp.auto) : RunL P N Q (c :: l) e h :=
  FXR.stp hs fun r he => by subst he; exact k
theorem RunL.fx {c : CI} {r : Option AV} (hx : FX P N c e h r h') (k : RunL P N Q l (putR c.d r e) h') : RunL P N Q (c :: l) e h := FXR.of hx k
theorem RunL.endL (hq : Q .normal e h) : RunL P N Q [] e h := hq
theorem RunL.live (k : (∀ id x, h.get id = some x → h.used id) → RunL P N Q l e h) (hl : l ≠ []) : RunL P N Q l e h := by
  cases l with
  | nil => exact absurd rfl hl
  | cons c l => exact fun ops i o ho hc m w a K QQ hr he hk => (k hr.live) ops i o ho hc m w a K QQ hr he hk
/-- Operations that leave the heap, in the text's order. -/
inductive PW (P : Program) (N : Nat) (K : Env → AHeap → Prop) : List CI → Env → AHeap → Prop
  | nil {e : Env} {h : AHeap} (hk : K e h) : PW P N K [] e h
  | fx {c : CI} {l : List CI} {e : Env} {h : AHeap} {r : Option AV} (hx : FX P N c e h r h) (k : PW P N K l (putR c.d r e) h) : PW P N K (c :: l) e h
theorem PW.go {K : Env → AHeap → Prop} {c : CI} (k : PW P N K l e' h) (hs : Stp c e h e' h := by exact Stp.auto) : PW P N K (c :: l) e h := by
  obtain ⟨r, he, hx, _⟩ := FX.of_stp (P := P) (N := N) hs
  subst he
  exact .fx hx k
theorem PW.call {K : Env → AHeap → Prop} {d : Option Nat} {f : Nat} {xs : List Opd} {g : Option (Nat × Bool)} {us vs : List AV} {r : AV} (hv : evL e xs = some us) (hg : met e g) (hs : SubL us vs) (hac : AE P f vs h r h) (k : PW P N K l (putR d (some r) e) h) : PW P N K (⟨d, .call f xs, g⟩ :: l) e h :=
  .fx (FX.call hg hv (hac.sub hs)) k
theorem PW.trace {K : Env → AHeap → Prop} : ∀ {l : List CI} {e : Env} {h : AHeap}, PW P N K l e h → ∃ (ee : Nat → Env) (rr : Nat → Option AV), ee 0 = e ∧ K (ee l.length) h ∧ ∀ i, i < l.length → FX P N (l.getD i default) (ee i) h (rr i) h ∧ ee (i + 1) = putR (l.getD i default).d (rr i) (ee i) := by
  intro l e h hd
  induction hd with
  | @nil e h hk => exact ⟨fun _ => e, fun _ => none, rfl, hk, fun i hi => by simp at hi⟩
  | @fx c l e h r hx k ih =>
    obtain ⟨ee, rr, q1, q2, q3⟩ := ih
    refine ⟨fun i => match i with | 0 => e | i + 1 => ee i, fun i => match i with | 0 => r | i + 1 => rr i, rfl, q2, fun i hi => ?_⟩
    cases i with
    | zero => exact ⟨hx, q1⟩
    | succ i => exact q3 i (by simpa using hi)
def chkC (l : List CI) (es : List (List Nat)) (c : Nat) : Bool :=
  es.length == l.length && decide (c < l.length) && ((List.range l.length).all fun j => (es.getD j []).all (fun k => decide (k < j))) &&
  ((List.range c).all fun i => ((ancs es []).getD c 0).testBit i) && ((List.range l.length).all fun j => !decide (c < j) || ((ancs es []).getD j 0).testBit (j - 1)) &&
  ((List.range c).all fun j => (List.range j).all fun i => !touch l [] [] i j || ((ancs es []).getD j 0).testBit i)
theorem eD_other {c : Nat → CI} {rr : Nat → Option AV} {D D' : Nat → Bool} {s : Nat} : ∀ n, (∀ k, k < n → (c k).d = some s → D' k = D k) → lk s (eD c rr e D' n) = lk s (eD c rr e D n)
  | 0, _ => rfl
  | n + 1, hk => by
    have ih := eD_other (rr := rr) n fun k h1 => hk k (by omega)
    simp only [eD]
    by_cases hd : (c n).d = some s
    · rw [hk n (by omega) hd]
      split
      · rw [hd, lk_putR_same, lk_putR_same]
      · exact ih
    · have e1 : ∀ (b : Bool) (x : Env), lk s (if b = true then putR (c n).d (rr n) x else x) = lk s x := fun b x => by cases b <;> simp [lk_putR_ne hd]
      rw [e1, e1]; exact ih
theorem ER.lkE {m : Inj} {w : World} {a : Act} {e1 e2 : Env} (he : ER N m h w e1 a) (hs : ∀ s, lk s e2 = lk s e1) : ER N m h w e2 a := ⟨he.size, he.defers, fun i v hv => he.val i v ((hs i).symm.trans hv)⟩
theorem FXR.lkE {c : CI} {e1 e2 : Env} {R : Option AV → AHeap → Prop} (hx : FXR P N c e1 h R) (hs : ∀ s, lk s e2 = lk s e1) : FXR P N c e2 h R := fun ops i o ho hc m w a K QQ hr he hk =>
  hx ops i o ho hc m w a K QQ hr (he.lkE fun s => (hs s).symm) fun m' w' a' r h' h1 h2 h3 h4 => hk m' w' a' r h' h1 h2 (h3.lkE (lk_putR_congr hs)) h4
theorem WW.sub {c : CC} {Q' : Exit → Env → AHeap → Prop} (hw : WW P N c Q' e h) (hq : ∀ ex e h, Q' ex e h → ∃ e3, (∀ s, lk s e3 = lk s e) ∧ Q ex e3 h) : WW P N c Q e h :=
  ⟨fun code hc m w a hr he => wp_mono (hw.out code hc m w a hr he) fun ex a' w' ⟨m', e', h', g1, g2, g3, g4⟩ => by
    obtain ⟨e3, h1, h2⟩ := hq _ _ _ g4
    exact ⟨m', e3, h', g1, g2.lkE h1, g3, h2⟩⟩
theorem touch_d {i j s : Nat} (h1 : (l.getD i default).d = some s) (h2 : (l.getD j default).d = some s) : touch l [] [] i j = true := by simp only [touch, h1, h2]; simp
theorem touch_s {i j s : Nat} (h1 : (l.getD i default).d = some s) (h2 : s ∈ cslots (l.getD j default)) : touch l [] [] i j = true := by
  simp only [touch, Bool.or_eq_true, List.any_eq_true]
  exact .inl (.inl (.inl ⟨s, h2, by rw [dslot, h1]; simp⟩))
theorem touch_r {i j s : Nat} (h1 : (l.getD j default).d = some s) (h2 : s ∈ cslots (l.getD i default)) : touch l [] [] i j = true := by
  simp only [touch, Bool.or_eq_true, List.any_eq_true]
  exact .inl (.inl (.inr ⟨s, h2, by rw [dslot, h1]; simp⟩))
theorem WW.dregC [MO P] (c : Nat) (hc : chkC l es c = true) (hwk : PW P N (fun e1 h1 => RunL P N Q (l.drop c) e1 h1) (l.take c) e h) : WW P N (.dreg l es) Q e h := by
  simp only [chkC, Bool.and_eq_true, beq_iff_eq, List.all_eq_true, List.mem_range, decide_eq_true_eq, Bool.or_eq_true, Bool.not_eq_true', decide_eq_false_iff_not] at hc
  obtain ⟨⟨⟨⟨⟨c1, c2⟩, c3⟩, c4⟩, c5⟩, c6⟩ := hc
  have anc : ∀ j i, ((ancs es []).getD j 0).testBit i = true → Reach es i j := ancs_ok es es [] rfl (fun j i hb => by simp at hb)
  obtain ⟨ee, rr, t1, t2, t3⟩ := hwk.trace
  have hlen : (l.take c).length = c := by simp; omega
  rw [hlen] at t2 t3
  have hget : ∀ i, i < c → (l.take c).getD i default = l.getD i default := fun i hi => by
    simp [List.getD_eq_getElem?_getD, List.getElem?_take, hi]
  have t4 : ∀ i, i < c → FX P N (l.getD i default) (ee i) h (rr i) h ∧ ee (i + 1) = putR (l.getD i default).d (rr i) (ee i) := fun i hi => by
    have := t3 i hi
    rw [hget i hi] at this
    exact this
  refine WW.sub (Q' := fun ex e h => ∃ e3, (∀ s, lk s e3 = lk s e) ∧ Q ex e3 h) ?_ fun ex e h hh => hh
  refine WW.dregI (fun D e1 h1 => (D c = false ∧ (∀ j, D j = true → j < c) ∧ h1 = h ∧ ∀ s, lk s e1 = lk s (eD (fun j => l.getD j default) rr e D c)) ∨
    ∃ k e3, c < k ∧ k ≤ l.length ∧ (∀ j, D j = decide (j < k)) ∧ (∀ s, lk s e3 = lk s e1) ∧ RunL P N Q (l.drop k) e3 h1) (by
      simp only [Bool.and_eq_true, beq_iff_eq, List.all_eq_true, List.mem_range, decide_eq_true_eq]
      exact ⟨c1, c3⟩) (.inl ⟨rfl, (fun j hj => by cases hj), rfl, fun s => ?_⟩) ?_ ?_
  · have := eD_stop (c := fun j => l.getD j default) (rr := rr) (e := e) (D := fun _ => false) (s := s) (i := 0) c (Nat.zero_le _) (fun _ _ _ _ => rfl)
    rw [this]; rfl
  · intro D e1 h1 i hi hDi hpre hcl hlive hI
    have hdone : ∀ {a b : Nat}, Reach es a b → (∀ k ∈ es.getD b [], D k = true) → D a = true := fun hr hp => Reach.done hcl hr hp
    have hcl2 : ∀ {a b : Nat}, Reach es a b → D b = true → D a = true := fun hr hb => Reach.done hcl hr (hcl _ hb)
    rcases hI with ⟨i1, i2, i3, i4⟩ | ⟨k, e3, k1, k2, k3, k4, k5⟩
    · rcases Nat.lt_trichotomy i c with hlt | rfl | hgt
      · subst i3
        obtain ⟨f1, f2⟩ := t4 i hlt
        have hag : ∀ s ∈ cslots (l.getD i default), lk s e1 = lk s (ee i) := fun s hs => by
          rw [i4 s, eD_stop (i := i) c (by omega) (fun k h2 h3 hd => ?_), eD_text t1 (fun j hj => (t4 j (by omega)).2) i (Nat.le_refl _) (fun k hk hd => ?_)]
          · have := c6 i hlt k hk
            rw [touch_s hd hs] at this
            exact hdone (anc i k (by simpa using this)) hpre
          · rcases Nat.eq_or_lt_of_le h2 with rfl | h2
            · exact hDi
            · cases hDk : D k with
              | false => rfl
              | true =>
                have := c6 k h3 i h2
                rw [touch_r hd hs] at this
                have := hcl2 (anc k i (by simpa using this)) hDk
                rw [hDi] at this; cases this
        have hx : FXR P N (l.getD i default) e1 h1 (fun r h2 => r = rr i ∧ h2 = h1) := fun ops i' o ho hcc m w a K QQ hr he hk =>
          f1 ops i' o ho hcc e1 hag m w a K QQ hr he fun m' w' a' g1 g2 g3 => hk m' w' a' _ _ ⟨rfl, rfl⟩ g1 g2 g3
        refine fun ops i' o ho hcc m w a K QQ hr he hk => hx ops i' o ho hcc m w a K QQ hr he fun m' w' a' r h2 hR g1 g2 g3 => hk m' w' a' r h2 (fun _ => ?_) g1 g2 g3
        obtain ⟨rfl, rfl⟩ := hR
        refine .inl ⟨by show (if c = i then true else D c) = false; rw [if_neg (by omega)]; exact i1, fun j hj => ?_, rfl, fun s => ?_⟩
        · by_cases hji : j = i
          · omega
          · exact i2 j (by simpa [hji] using hj)
        · by_cases hd : (l.getD i default).d = some s
          · have hlat : ∀ k, i + 1 ≤ k → k < c → (l.getD k default).d = some s → (if k = i then true else D k) = false := fun k h2 h3 hdk => by
              rw [if_neg (by omega)]
              cases hDk : D k with
              | false => rfl
              | true =>
                have := c6 k h3 i (by omega)
                rw [touch_d hd hdk] at this
                have := hcl2 (anc k i (by simpa using this)) hDk
                rw [hDi] at this; cases this
            rw [eD_stop (c := fun j => l.getD j default) (i := i + 1) c (by omega) hlat]
            simp only [eD, if_true]
            rw [hd, lk_putR_same, lk_putR_same]
          · rw [lk_putR_ne hd, i4 s]
            refine (eD_other c fun k hk hdk => ?_).symm
            have : k ≠ i := fun e => by subst e; exact hd hdk
            simp [this]
      · subst i3
        have hall : ∀ j, j < i → D j = true := fun j hj => hdone (anc i j (c4 j hj)) hpre
        have hee : ∀ s, lk s e1 = lk s (ee i) := fun s => by
          rw [i4 s]
          exact eD_text t1 (fun j hj => (t4 j hj).2) i (Nat.le_refl _) fun k hk _ => hall k hk
        rw [List.drop_eq_getElem_cons c2] at t2
        have hci : l[i] = l.getD i default := by simp [List.getD_eq_getElem?_getD, hi]
        rw [hci] at t2
        have hx : FXR P N (l.getD i default) (ee i) h1 (fun r h2 => RunL P N Q (l.drop (i + 1)) (putR (l.getD i default).d r (ee i)) h2) := t2
        refine fun ops i' o ho hcc m w a K QQ hr he hk => (hx.lkE hee) ops i' o ho hcc m w a K QQ hr he fun m' w' a' r h2 hR g1 g2 g3 => hk m' w' a' r h2 (fun _ => ?_) g1 g2 g3
        refine .inr ⟨i + 1, _, by omega, by omega, fun j => ?_, lk_putR_congr fun s => (hee s).symm, hR⟩
        show (if j = i then true else D j) = _
        by_cases hj : j = i
        · simp [hj]
        · rw [if_neg hj]
          by_cases hj2 : j < i
          · rw [hall j hj2]; simp; omega
          · cases hDj : D j with
            | true => have := i2 j hDj; omega
            | false => simp; omega
      · have hr : Reach es (i - 1) i := anc i (i - 1) ((c5 i hi).resolve_left (fun hh => hh hgt))
        have := hdone hr hpre
        have := i2 _ this
        omega
    · have hik : i = k := by
        rcases Nat.lt_trichotomy i k with hlt | rfl | hgt
        · rw [k3 i] at hDi; simp [hlt] at hDi
        · rfl
        · have hr : Reach es (i - 1) i := anc i (i - 1) ((c5 i hi).resolve_left (fun hh => hh (by omega)))
          have := hdone hr hpre
          rw [k3] at this
          simp at this; omega
      subst hik
      rw [List.drop_eq_getElem_cons hi] at k5
      have hci : l[i] = l.getD i default := by simp [List.getD_eq_getElem?_getD, hi]
      rw [hci] at k5
      have hx : FXR P N (l.getD i default) e3 h1 (fun r h2 => RunL P N Q (l.drop (i + 1)) (putR (l.getD i default).d r e3) h2) := k5
      refine fun ops i' o ho hcc m w a K QQ hr he hk => (hx.lkE fun s => (k4 s).symm) ops i' o ho hcc m w a K QQ hr he fun m' w' a' r h2 hR g1 g2 g3 => hk m' w' a' r h2 (fun _ => ?_) g1 g2 g3
      refine .inr ⟨i + 1, _, by omega, by omega, fun j => ?_, lk_putR_congr k4, hR⟩
      show (if j = i then true else D j) = _
      by_cases hj : j = i
      · simp [hj]
      · rw [if_neg hj, k3 j]
        simp only [decide_eq_decide]
        omega
  · intro D e1 h1 hall hI
    rcases hI with ⟨i1, _⟩ | ⟨k, e3, k1, k2, k3, k4, k5⟩
    · rw [hall c c2] at i1; cases i1
    · have hk : k = l.length := by
        by_cases hkl : k < l.length
        · have := hall k hkl
          rw [k3 k] at this
          simp at this
        · omega
      subst hk
      rw [List.drop_length] at k5
      exact ⟨e3, k4, k5⟩
/-- One operation of a region, by what holds behind it. -/
theorem WL.fxr {c : CI} {R : Option AV → AHeap → Prop} (hx : FXR P N c e h R) (k : ∀ r h', R r h' → WL P N l Q (putR c.d r e) h') : WL P N (c :: l) Q e h := ⟨by
  intro ops idx hlt hl m w a hr he
  cases idx with
  | nil => simp at hl
  | cons i idx =>
    simp only [List.map_cons, List.cons.injEq] at hl
    obtain ⟨hc, hl⟩ := hl
    have hilt := hlt i (by simp)
    have ho : ops[i]? = some ops[i] := Array.getElem?_eq_getElem hilt
    have hget : ops.getD i default = ops[i] := by simp [hilt]
    rw [hget] at hc
    rw [wpOps_cons]
    refine hx ops i _ ho hc m w a _ _ hr he fun m' w' a' r h' hR h1 h2 h3 => ?_
    exact wpOps_mono (fun _ _ _ hp => PA.from h3 hp) idx _ _ ((k r h' hR).out ops idx (fun j hj => hlt j (by simp [hj])) hl m' w' a' h1 h2)⟩
theorem FXR.callv {d : Option Nat} {f : Nat} {x : Opd} {xs : List Opd} {g : Option (Nat × Bool)} {us vs ts : List AV} {R : AV → AHeap → Prop} (hx : ev e x = some (.func (.func f) us ts)) (hv : evL e xs = some vs) (hg : met e g) (hb : bodied P f = true) (hac : AC P f (us ++ vs ++ ts) h R) : FXR P N ⟨d, .callv x xs, g⟩ e h (fun r h' => ∃ r1, r = some r1 ∧ R r1 h') := by
  intro ops i o ho hc m w a K QQ hr he hk
  rcases compI_ok hc with ⟨hb1, hb2⟩ | ⟨hd, hdst, hcomp, hgd⟩
  · simp at hb1
  · obtain ⟨w1, w2⟩ := wanted_of he hgd
    have hw : Region.wanted o (yielded ops a.tmps) = true := by
      cases g with
      | none => exact w1 rfl
      | some sb =>
        obtain ⟨s, b⟩ := sb
        rw [w2 s b b rfl hg]; simp
    simp only [wpOp, ho]
    rw [if_pos hw]
    left
    have hco := hcomp rfl
    obtain ⟨c, y, hop, hcal, hy, hxs⟩ := compile_callv hco
    obtain ⟨hl1, hl2⟩ := he.evalL hxs hv
    have hfv := he.eval hy hx
    generalize hcx : a.eval (.tmp y) = cx at hfv
    cases hfv with
    | func _ _ _ cs ds q1 q2 q3 q4 =>
      have hrun : (execOp a.eval o).run P w = .ok (.enter f (cs ++ c.args.map a.eval ++ ds)) w := by
        simp [execOp, hop, resolve, hcal, hcx, Deferred.ofValue, invoke, run_callFunc hb]
      refine call_wp hrun hr (by simp [q1, q2, hl1]) (fun j v hj => ?_) hac fun v w' m' r1 h1 g1 g2 g3 g4 => ?_
      · rw [List.append_assoc] at hj
        simp only [Array.getD_eq_getD_getElem?]
        by_cases j1 : j < us.length
        · rw [List.getElem?_append_left j1] at hj
          have := q3 j v hj
          rw [Array.append_assoc, Array.getElem?_append_left (by omega)]
          simpa [Array.getD_eq_getD_getElem?] using this
        · rw [List.getElem?_append_right (by omega)] at hj
          rw [Array.append_assoc, Array.getElem?_append_right (by omega), ← q1]
          by_cases j2 : j - us.length < vs.length
          · rw [List.getElem?_append_left j2] at hj
            have := hl2 _ v hj
            rw [Array.getElem?_append_left (by simp at hl1 ⊢; omega)]
            simpa [List.getD_eq_getElem?_getD] using this
          · rw [List.getElem?_append_right (by omega)] at hj
            have := q4 _ v hj
            have hl1' : vs.length = c.args.size := by simpa using hl1
            rw [Array.getElem?_append_right (by simp; omega)]
            simpa [Array.getD_eq_getD_getElem?, hl1'] using this
      · refine hk m' w' _ (some r1) h1 ⟨r1, rfl, g4⟩ g1 ?_ g3
        have hd' : d = o.dst := hd
        show ER N m' h1 w' (putR d (some r1) e) _
        rw [hd']
        exact (he.step g3).putR hdst g2
/-- A call of an interface value's method, by its contract. -/
theorem FXR.inv {d : Option Nat} {f t : Nat} {s : String} {x : Opd} {xs : List Opd} {g : Option (Nat × Bool)} {v : AV} {vs : List AV} {R : AV → AHeap → Prop} (hx : ev e x = some (.iface t v)) (hv : evL e xs = some vs) (hg : met e g) (hm : methF P t s = some f) (hb : bodied P f = true) (hac : AC P f (v :: vs) h R) : FXR P N ⟨d, .raw (.inv s x xs), g⟩ e h (fun r h' => ∃ r1, r = some r1 ∧ R r1 h') := by
  intro ops i o ho hc m w a K QQ hr he hk
  have hraw := compI_raw hc rfl
  rcases compI_ok hc with ⟨hb1, hb2⟩ | ⟨hd, hdst, _, hgd⟩
  · cases hb1
  · obtain ⟨w1, w2⟩ := wanted_of he hgd
    have hw : Region.wanted o (yielded ops a.tmps) = true := by
      cases g with
      | none => exact w1 rfl
      | some sb =>
        obtain ⟨s2, b⟩ := sb
        rw [w2 s2 b b rfl hg]; simp
    simp only [wpOp, ho]
    rw [if_pos hw]
    left
    obtain ⟨c, y, hop, hcal, hy, hxs⟩ := cx_inv hraw
    obtain ⟨hl1, hl2⟩ := he.evalL hxs hv
    have hfv := he.eval hy hx
    generalize hcx : a.eval y = cx at hfv
    cases hfv with
    | iface _ _ cv q =>
      have hx1 : ∀ (u : Value) (X : Array Value), (#[u] ++ X)[0]? = some u := fun u X => by rw [Array.getElem?_append_left (by simp)]; rfl
      have hx2 : ∀ (u : Value) (X : Array Value), (#[u] ++ X).extract 1 (#[u] ++ X).size = X := fun u X => by
        apply Array.ext'
        simp
      have hx3 : P.types.size + Made.depth = (P.types.size + 99) + 1 := rfl
      have hrun : (execOp a.eval o).run P w = .ok (.enter f (#[cv] ++ c.args.map a.eval)) w := by
        simp only [execOp, hop, resolve, hcal, hcx, Sem.run_bind, Sem.run_pure, Result.andThen_ok, invoke, hx1, hx2, callMethod, run_program, hx3, run_method hm, run_callFunc hb]
      refine call_wp hrun hr (by have : vs.length = c.args.size := by simpa using hl1
                                 simp; omega) (fun j v2 hj => ?_) hac fun v2 w' m' r1 h1 g1 g2 g3 g4 => ?_
      · simp only [Array.getD_eq_getD_getElem?]
        rcases j with _ | j
        · cases hj
          rw [hx1]
          exact q
        · have := hl2 j v2 (by simpa using hj)
          rw [Array.getElem?_append_right (by simp)]
          simpa [List.getD_eq_getElem?_getD] using this
      · refine hk m' w' _ (some r1) h1 ⟨r1, rfl, g4⟩ g1 ?_ g3
        have hd' : d = o.dst := hd
        show ER N m' h1 w' (putR d (some r1) e) _
        rw [hd']
        exact (he.step g3).putR hdst g2
/-- A contract, of a heap that is told otherwise. -/
theorem AC.cvt {f : Nat} {vs : List AV} {R : AV → AHeap → Prop} (hc : Cvt [] h [] h') (hac : AC P f vs h' R) : AC P f vs h R := fun m w cargs hr hl hv => by
  obtain ⟨m1, r1, _, s1⟩ := hc 0 m w ⟨#[], []⟩ hr ⟨rfl, rfl, fun i v hi => by simp [lk_nil] at hi⟩
  refine (hac m1 w cargs r1 hl fun i v hi => (hv i v hi).step s1).mono fun ex w' ⟨v, m', r, h2, e1, g1, g2, g3, hR⟩ => ⟨v, m', r, h2, e1, g1, g2, s1.trans g3, hR⟩
end
end Go.Abs


namespace Go.Proofs.YtafkhpjnihnfpaaGreat
open Go Go.Abs

theorem Kp.cvt {W : Nat → Prop} {h h' : AHeap} (h1 : h'.next = h.next) (h2 : h'.gap = h.gap) (h3 : ∀ id, ¬ W id → h'.get id = h.get id) : Kp W h h' :=
  ⟨by omega, fun id hu => by unfold AHeap.used at hu ⊢; rw [h1, h2]; exact hu, fun id _ hw => h3 id hw⟩
/-- What a cache is at all times. -/
structure CaOk (md : Bool) (x : CaS) (k : Nat) : Prop where
  st : WSt md x.s k
  b : 0 ≤ x.boot ∧ x.boot < 4294967296
  j : x.j ≤ 100
  l : (x.now.length : Int) = x.s.n
  w : ∀ y ∈ x.now, y.Wf
  ok : lvOk x.now 0 = true
end Go.Proofs.YtafkhpjnihnfpaaGreat


namespace Go.Proofs.YtafkhpjnihnfpaaGreat
open Go Go.Abs

theorem model_isLba_ae (n : Int) (h : AHeap) : AE Tryz.prog 128 [.int .i64 n] h (.bool (decide (0 ≤ n) && decide (n < 32))) h := by
  refine AE.pureW is_model_isLba (by simp) ?_
  unfold c_model_isLba
  (refine go ?_)
  (apply WL.andB; exact rfl; exact rfl; exact rfl; exact BP.of; intro hz1)
  · (repeat first | (apply GW.goS; exact Stp.auto) | apply GW.nil | exact rfl)
  (refine go ?_)
  refine WW.ret (PureQ.finD ?_)
  exact fz_b (by simp)
theorem model_Is2_ae (lba : Int) (c : List (List AV)) (hc : c.length = 32) (hl : (decide (0 ≤ lba) && decide (lba < 32)) = true) (h : AHeap) : AE Tryz.prog 86 [.agg [.int .i64 2, .int .i64 lba, .imm 1 c]] h (.bool true) h := by
  refine AE.pureW is_model_Is (by simp) ?_
  unfold c_model_Is
  (refine go ?_)
  refine WL.call rfl (by first | exact True.intro | exact rfl) gSL (model_isLba_ae _ _) ?_
  rw [hl]
  (refine go ?_)
  refine WW.ret (PureQ.finD ?_)
  exact fz_b (by rw [hc]; rfl)
/-- What a call leaves: names that were there, or new ones. -/
structure CaMv (md : Bool) (h : AHeap) (n n' : CaN) : Prop where
  o : ∀ id, n'.own id → n.own id ∨ h.next ≤ id
  w : ∀ id, n'.w.nm md id → n.w.nm md id ∨ h.next ≤ id
  c : n'.c = n.c
  a : n'.w.a = n.w.a
def CaR (md : Bool) (h : AHeap) (n : CaN) (Post : Int → AV → CaS → Prop) (r : AV) (h' : AHeap) : Prop :=
  ∃ n' x' e v, r = .agg [.int .i64 e, v] ∧ (v = .nils ∨ ∃ c, v = .imm 1 c) ∧ Post e v x' ∧ CaG md h' n' x' ∧ CaMv md h n n' ∧ Kp (fun id => n.w.own md id ∨ n.own id) h h'
theorem CaMv.refl {md : Bool} {h : AHeap} {n : CaN} : CaMv md h n n := ⟨fun _ => .inl, fun _ => .inl, rfl, rfl⟩
theorem CaMv.le {md : Bool} {h h2 : AHeap} {n n' : CaN} (hm : CaMv md h2 n n') (hx : h.next ≤ h2.next) : CaMv md h n n' := ⟨fun id hi => (hm.o id hi).imp (fun q => q) (Nat.le_trans hx), fun id hi => (hm.w id hi).imp (fun q => q) (Nat.le_trans hx), hm.c, hm.a⟩
def methC (k : Int) : Nat := if k = 1 then 87 else if k = 2 then 88 else if k = 3 then 89 else if k = 4 then 90 else 91
def tabC : List (AV × AV) := [(.int .i64 1, .func (.func 87) [] []), (.int .i64 2, .func (.func 88) [] []), (.int .i64 3, .func (.func 89) [] []), (.int .i64 4, .func (.func 90) [] []), (.int .i64 5, .func (.func 91) [] [])]
theorem tabC_find {k : Int} (hk : k = 1 ∨ k = 2 ∨ k = 3 ∨ k = 4 ∨ k = 5) : ∃ ti, findA (.int .i64 k) tabC 0 = some (some (ti, .func (.func (methC k)) [] [])) := by
  rcases hk with rfl | rfl | rfl | rfl | rfl <;> exact ⟨_, rfl⟩
theorem methC_body {k : Int} (hk : k = 1 ∨ k = 2 ∨ k = 3 ∨ k = 4 ∨ k = 5) : bodied Tryz.prog (methC k) = true := by
  rcases hk with rfl | rfl | rfl | rfl | rfl <;> kernel_rfl
set_option maxHeartbeats 4000000 in
theorem cache_Do_ac {md : Bool} {h : AHeap} {n : CaN} {x : CaS} {Post : Int → AV → CaS → Prop} (hg : CaG md h n x) (hgo : x.s.pw.gone = false) (hb : x.bad = false) (k lba : Int) (u : AV) (hu : u = .nils ∨ ∃ c, u = .imm 1 c) (hk : k = 1 ∨ k = 2 ∨ k = 3 ∨ k = 4 ∨ k = 5)
    (hIs : ∀ h2, AE Tryz.prog 86 [.agg [.int .i64 k, .int .i64 lba, u]] h2 (.bool true) h2)
    (hac : ∀ h2, Kp (fun _ => False) h h2 → CaG md h2 n x → AC Tryz.prog (methC k) [.ptr n.c 0 0, .agg [.int .i64 k, .int .i64 lba, u]] h2 (CaR md h2 n Post)) :
    AC Tryz.prog 57 [.ptr n.c 0 0, .agg [.int .i64 k, .int .i64 lba, u]] h (CaR md h n Post) := by
  refine AC.introW is_cache_Cache_Do (by simp) ?_
  unfold c_cache_Cache_Do
  have hgg := hg
  obtain ⟨g1, g2, ⟨v, g3, g4⟩, g5, g6, g8, g7⟩ := hg
  have hc := g4.g
  rw [hb] at hc
  have hob := g1.w.w
  simp only [wRow] at hob
  have husc : u.scalar = true := by rcases hu with rfl | ⟨c, rfl⟩ <;> rfl
  have hna : n.w.a + 11 ≤ h.next := g1.w.nx
  have hnc := g8 n.c (.inl rfl)
  have hpw : h.get n.w.p = some (.mem 4 [x.s.pw.row]) := g1.w.sd.pw
  have hpl : n.w.p < h.next := by have := g1.w.op; omega
  have hnil : ∀ h2 : AHeap, Kp (fun _ => False) h h2 → CaG md h2 n x := fun h2 k2 => hgg.new k2
  rcases hu with rfl | ⟨c, rfl⟩
  all_goals
    (refine go ?_)
    refine WL.call rfl (by first | exact True.intro | exact rfl) gSL (power_On_ae (p := n.w.p) (s := x.s.pw) gH) ?_
    rw [hgo]
    (refine go ?_)
    refine WL.call rfl (by first | exact True.intro | exact rfl) gSL (hIs _) ?_
    (refine go ?_)
    iterate 5 refine WL.fx0 (FX.mput (r := none) rfl rfl rfl gH trivial rfl (by first | exact True.intro | exact rfl)) ?_
    (refine go ?_)
    obtain ⟨ti, htab⟩ := tabC_find hk
    refine WL.fx1 (FX.look (es := tabC) rfl rfl gH trivial htab rfl (by first | exact True.intro | exact rfl)) ?_
    simp only [lookR, Option.map_some, Option.getD_some]
    clear htab
    (repeat first | refine WW.seq ?_ | refine WW.reg ?_ | refine WL.nil ?_ | refine WW.skip ?_ | refine WW.block ?_ | refine thenN ?_ | refine blkN ?_); iterate 2 (refine WL.go ?_)
    refine WL.live fun hl => ?_
    refine WL.cut (fun e2 h2 => subE [(4, some (.ptr (h.next + 1) 0 0)), (37, some (.func (.func (methC k)) [] [])), (38, some (.ptr n.c 0 0)), (39, some (.agg [.int .i64 k, .int .i64 lba, _]))] e2 ∧ Kp (fun _ => False) h h2 ∧ BoxAt h2 (h.next + 1) (.mem 2 [[.int .i64 0, .nils]])) ⟨gSUB, (by repeat first | exact Kp.refl | assumption | with_reducible refine Kp.put ?_ (by omega) _ | with_reducible refine Kp.setN ?_ (by omega) _ | with_reducible refine Kp.keep ?_ _ | with_reducible refine Kp.setW ?_ (by rfl) _), hl _ _ gH, gH⟩ ?_
    clear hl hIs
    rintro e2 h2 ⟨l1, k2, b2⟩
    refine WL.cvt (Cvt.sub l1) ?_
    have hx2 := b2.u.1
    refine WL.fxr (FXR.callv rfl rfl (by first | exact True.intro | exact rfl) (methC_body hk) (hac h2 k2 (hnil _ k2))) ?_
    rintro _ h5 ⟨_, rfl, n', x', e', v', rfl, hsc, hP, g', mv, k'⟩
    have b5 := b2.kp k' (fun hh => by
      rcases hh with hh | hh
      · have := (g1.us _ (.inl (WN.own_all hh))).1; omega
      · have := g8 _ hh; omega)
    have hb5 := b5.g
    have hx5 := k'.next
    have kt : Kp (fun id => id = h.next + 1) h5 (h5.set (h.next + 1) (some (.mem 2 [[.int .i64 e', v']]))) := Kp.cvt rfl rfl fun id hi => get_set_neE hi rfl
    have hfin : CaR md h n Post (.agg [.int .i64 e', v']) (h5.set (h.next + 1) (some (.mem 2 [[.int .i64 e', v']]))) := by
      refine ⟨n', x', e', v', rfl, hsc, hP, g'.kp kt (fun id hi hh => ?_) (fun id hi hh => ?_), mv.le k2.next, ?_⟩
      · rcases mv.w id hi with h6 | h6
        · have := (g1.us _ h6).1; omega
        · omega
      · rcases mv.o id hi with h6 | h6
        · have := g8 _ h6; omega
        · omega
      · exact ((k2.mono fun _ _ h => h.elim).trans k').trans2 kt fun id hi => .inr (by omega)
    rcases hsc with rfl | ⟨c2, rfl⟩
    · (refine go ?_)
      exact WW.ret ⟨.inl rfl, [.agg [.int .i64 e', _]], gRES, hfin⟩
    · (refine go ?_)
      exact WW.ret ⟨.inl rfl, [.agg [.int .i64 e', _]], gRES, hfin⟩
end Go.Proofs.YtafkhpjnihnfpaaGreat


namespace Go.Proofs.YtafkhpjnihnfpaaGreat
open Go Go.Abs

def ag1 : AgS := ⟨1 :: List.replicate 15 0, 1, [0]⟩
theorem slices_Index0_ae (x : Int) (h : AHeap) : AE Tryz.prog 120 [.nils, .int .i64 x] h (.int .i64 (-1)) h := by
  refine AE.pureW is_slices_Indexint_int (by simp) ?_
  unfold c_slices_Indexint_int
  (refine go ?_)
  refine WW.loopE (fun (_ : Unit) => [(7, some (.int .i64 0)), (8, some (.int .i64 0))]) (fun _ h' => h' = h) (fun _ => 0) () gSUB rfl ?_
  rintro i h' rfl
  (refine go ?_)
  refine WW.ret (PureQ.finD ?_)
  exact fz_i rfl
section
variable {h : AHeap} {a q : Nat}
theorem age_Drop0_ae (ha : h.get a = some (.mem 18 [ag0.row q])) (hq : h.get q = some (.mem 2 [[.nils, agF a]])) : AE Tryz.prog 82 [.ptr a 0 0, .int .i64 0] h (.bool false) h := by
  simp only [AgS.row, ag0, agF] at ha hq
  refine AE.pureW is_age_Age_Drop (by simp) ?_
  unfold c_age_Age_Drop
  (refine go ?_)
  refine WL.call rfl (by first | exact True.intro | exact rfl) gSL (slices_Index0_ae 0 _) ?_
  (refine go ?_)
  refine WW.ret (PureQ.finD ?_)
  exact fz_b rfl
theorem queue_Push0_ac (hq : BoxAt h q (.mem 2 [[.nils, agF a]])) : AC Tryz.prog 216 [.ptr q 0 0, .iface 3 (.int .i64 0)] h (fun r h' => r = .tup [] ∧ h.next < h'.next ∧ BoxAt h' h.next (.mem 1 [[.int .i64 0]]) ∧ BoxAt h' q (.mem 2 [[.ref h.next 0 1, agF a]]) ∧ Kp (fun id => id = q) h h') := by
  have hqg := hq.g
  simp only [agF] at hqg
  have hql := hq.u.1
  refine AC.introW is_age_queue_Push (by simp) ?_
  unfold c_age_queue_Push
  (refine go ?_)
  refine WL.fx1 (FX.rawN (XOK.asrt rfl) (by first | exact True.intro | exact rfl)) ?_
  (repeat first | refine WW.seq ?_ | refine WW.reg ?_ | refine WL.nil ?_ | refine WW.skip ?_ | refine WW.block ?_ | refine thenN ?_ | refine blkN ?_); iterate 5 (refine WL.go ?_)
  (repeat first | refine WW.seq ?_ | refine WW.reg ?_ | refine WL.nil ?_ | refine WW.skip ?_ | refine WW.block ?_ | refine thenN ?_ | refine blkN ?_); iterate 7 (refine WL.go ?_)
  refine WL.fx1 (FX.appM (nm := h.next) (c := [[.int .i64 0]]) (fun hu => Nat.lt_irrefl _ hu.1) rfl rfl rfl (by simp) (by simp) (by first | exact True.intro | exact rfl)) ?_
  refine WL.live fun hl => ?_
  have b1 : BoxAt (h.put h.next (.mem 1 [[.int .i64 0]])) h.next (.mem 1 [[.int .i64 0]]) := ⟨put_used_nm, gH⟩
  (refine go ?_)
  have kp : Kp (fun id => id = q) h ((h.put h.next (.mem 1 [[.int .i64 0]])).set q (some (.mem 2 [[.ref h.next 0 1, agF a]]))) := Kp.setW (W := fun id => id = q) (Kp.put Kp.refl (Nat.le_refl _) _) rfl _
  refine ⟨.inr rfl, _, gRES, rfl, (ltN gN (by omega)), ⟨?_, gH⟩, ⟨kp.us _ hq.u, gH⟩, kp⟩
  exact b1.u
theorem queue_Len_ae {E n : Nat} (hq : h.get q = some (.mem 2 [[.ref E 0 n, agF a]])) : AE Tryz.prog 195 [.ptr q 0 0] h (.int .i64 n) h := by
  simp only [agF] at hq
  refine AE.pureW is_age_queue_Len (by simp) ?_
  unfold c_age_queue_Len
  (refine go ?_)
  refine WW.ret (PureQ.finD ?_)
  exact fz_i rfl
theorem heap_up0_ae (v : AV) (hv : v.scalar = true) (h : AHeap) : AE Tryz.prog 122 [v, .int .i64 0] h (.tup []) h := by
  refine AE.pureW is_container_heap_up (by simp) ?_
  unfold c_container_heap_up
  (refine go ?_)
  refine WW.loopE (fun (_ : Unit) => [(0, some v), (1, some (.int .i64 0))]) (fun _ h' => h' = h) (fun _ => 0) () gSUB rfl ?_
  rintro i h' rfl
  (refine go ?_)
  exact PureQ.fin (.inr rfl) gK gRES fz_unit
theorem heap_Push0_ac (hq : BoxAt h q (.mem 2 [[.nils, agF a]])) : AC Tryz.prog 83 [.iface 156 (.ptr q 0 0), .iface 3 (.int .i64 0)] h (fun r h' => r = .tup [] ∧ h.next < h'.next ∧ BoxAt h' h.next (.mem 1 [[.int .i64 0]]) ∧ BoxAt h' q (.mem 2 [[.ref h.next 0 1, agF a]]) ∧ Kp (fun id => id = q) h h') := by
  refine AC.introW is_container_heap_Push (by simp) ?_
  unfold c_container_heap_Push
  (repeat first | refine WW.seq ?_ | refine WW.reg ?_ | refine WL.nil ?_ | refine WW.skip ?_ | refine WW.block ?_ | refine thenN ?_ | refine blkN ?_); iterate 1 (refine WL.go ?_)
  (repeat first | refine WW.seq ?_ | refine WW.reg ?_ | refine WL.nil ?_ | refine WW.skip ?_ | refine WW.block ?_ | refine thenN ?_ | refine blkN ?_); iterate 1 (refine WL.go ?_)
  refine WL.fxr (FXR.inv rfl rfl (by first | exact True.intro | exact rfl) (f := 216) (by kernel_rfl) (by kernel_rfl) (queue_Push0_ac hq)) ?_
  rintro _ h2 ⟨_, rfl, rfl, hx, b1, b2, k2⟩
  (repeat first | refine WW.seq ?_ | refine WW.reg ?_ | refine WL.nil ?_ | refine WW.skip ?_ | refine WW.block ?_ | refine thenN ?_ | refine blkN ?_)
  (repeat first | refine WW.seq ?_ | refine WW.reg ?_ | refine WL.nil ?_ | refine WW.skip ?_ | refine WW.block ?_ | refine thenN ?_ | refine blkN ?_); iterate 2 (refine WL.go ?_)
  refine WL.fx1 (FX.inv rfl rfl (by first | exact True.intro | exact rfl) (f := 195) (by kernel_rfl) (by kernel_rfl) (queue_Len_ae b2.g)) ?_
  (refine go ?_)
  refine WL.call rfl (by first | exact True.intro | exact rfl) gSL (heap_up0_ae _ rfl _) ?_
  (refine go ?_)
  exact ⟨.inr rfl, _, gRES, rfl, hx, b1, b2, k2⟩
set_option maxHeartbeats 2000000 in
theorem age_Touch0_ac (ha : BoxAt h a (.mem 18 [ag0.row q])) (hq : BoxAt h q (.mem 2 [[.nils, agF a]])) (hne : a ≠ q) : AC Tryz.prog 55 [.ptr a 0 0, .int .i64 0] h (fun r h' => r = .bool true ∧ ∃ E, h.next ≤ E ∧ E < h'.next ∧ AgAt h' a q E ag1 ∧ Kp (fun id => id = a ∨ id = q) h h') := by
  have hag := ha.g
  have hal := ha.u.1
  have hql := hq.u.1
  simp only [AgS.row, ag0] at hag
  refine AC.introW is_age_Age_Touch (by simp) ?_
  unfold c_age_Age_Touch
  (refine go ?_)
  refine WL.call rfl (by first | exact True.intro | exact rfl) gSL (age_Drop0_ae ha.g hq.g) ?_
  (refine go ?_)
  refine WL.named (fun h2 => h2.get a = some (.mem 18 [ag1.row q]) ∧ Kp (fun id => id = a) h h2 ∧ h2.next = h.next) ⟨gH, Kp.setW (W := fun id => id = a) (Kp.setW (W := fun id => id = a) Kp.refl rfl _) rfl _, rfl⟩ ?_
  rintro h2 ⟨a2, k2, hx2⟩
  have q2 := hq.kp k2 (fun e => hne e.symm)
  have A2 : BoxAt h2 a (.mem 18 [ag1.row q]) := ⟨k2.us _ ha.u, a2⟩
  refine WL.fx1 (FX.rawN (XOK.mkif rfl) (by first | exact True.intro | exact rfl)) ?_
  (repeat first | refine WW.seq ?_ | refine WW.reg ?_ | refine WL.nil ?_ | refine WW.skip ?_ | refine WW.block ?_ | refine thenN ?_ | refine blkN ?_); iterate 1 (refine WL.go ?_)
  refine WL.fx1 (FX.rawN (XOK.mkif rfl) (by first | exact True.intro | exact rfl)) ?_
  refine WL.callA rfl (by first | exact True.intro | exact rfl) gSL (heap_Push0_ac q2) ?_
  rintro _ h3 ⟨rfl, hx3, b3, q3, k3⟩
  have A3 := A2.kp k3 hne
  (refine go ?_)
  refine WW.ret ⟨.inl rfl, _, gRES, rfl, h2.next, by omega, hx3, ⟨A3, _, .inr ⟨rfl, b3, by simp [ag1]⟩, q3⟩, ?_⟩
  exact (k2.mono fun _ _ e => .inl e).trans (k3.mono fun _ _ e => .inr e)
end
end Go.Proofs.YtafkhpjnihnfpaaGreat


namespace Go.Proofs.YtafkhpjnihnfpaaGreat
open Go Go.Abs

def freeP (x : CaS) (i : Nat) : Bool := ((x.now.getD i lf0).k == 0) && ((x.was.getD i lf0).k == 0)
section
variable {md : Bool} {h : AHeap} {n : CaN} {x : CaS}
theorem cache_isFree_ae (hg : CaG md h n x) (i : Nat) (hi : i < x.now.length) (hi2 : i < x.was.length) : AE Tryz.prog 169 [.ptr n.c 0 0, .int .i64 i] h (.bool (freeP x i)) h := by
  obtain ⟨g1, g2, ⟨v, g3, g4⟩, g5, g6, g8, g7⟩ := hg
  have hc := g4.g
  have e1 : x.now.getD i lf0 = x.now[i] := by simp [List.getD_eq_getElem?_getD, hi]
  have e2 : x.was.getD i lf0 = x.was[i] := by simp [List.getD_eq_getElem?_getD, hi2]
  refine AE.pureW is_cache_Cache_isFree (by simp) ?_
  unfold c_cache_Cache_isFree
  rcases g3 with rfl | ⟨rfl, hE⟩
  · (refine go ?_)
    (apply WL.andB; exact rfl; exact rfl; exact rfl; exact BP.of; intro hz1)
    · (repeat first | (apply GW.goS; exact Stp.auto) | apply GW.nil | exact rfl)
    (refine go ?_)
    refine WW.ret (PureQ.finD ?_)
    exact fz_b (by rw [freeP, e1, e2])
  · have hEg := hE.g
    (refine go ?_)
    simp only [Nat.zero_add]
    (apply WL.andB; exact rfl; exact rfl; exact rfl; exact BP.of; intro hz1)
    · (repeat first | (apply GW.goS; exact Stp.auto) | apply GW.nil | exact rfl)
    (refine go ?_)
    refine WW.ret (PureQ.finD ?_)
    exact fz_b (by rw [freeP, e1, e2])
def freeI (x : CaS) : Int := if (List.range x.now.length).findIdx (freeP x) < x.now.length then ((List.range x.now.length).findIdx (freeP x) : Int) else -1
theorem cache_free_ae (hg : CaG md h n x) (hl : x.now.length ≤ 16) (hl2 : x.was.length = x.now.length) : AE Tryz.prog 132 [.ptr n.c 0 0] h (.int .i64 (freeI x)) h := by
  have hgg := hg
  obtain ⟨g1, g2, ⟨v, g3, g4⟩, g5, g6, g8, g7⟩ := hg
  have hc := g4.g
  have hlr : (List.range x.now.length).length = x.now.length := List.length_range
  refine AE.pureW is_cache_Cache_free (by simp) ?_
  unfold c_cache_Cache_free
  rcases g3 with rfl | ⟨rfl, hE⟩
  all_goals
    (refine go ?_)
    refine WW.loopE (fun (i : Nat) => [(0, some (.ptr n.c 0 0)), (8, some (.int .i64 x.now.length)), (9, some (.int .i64 i))])
      (fun i h' => h' = h ∧ i ≤ x.now.length ∧ i ≤ (List.range x.now.length).findIdx (freeP x)) (fun i => x.now.length - i) 0 gSUB ⟨rfl, Nat.zero_le _, Nat.zero_le _⟩ ?_
    rintro i h' ⟨rfl, c1, c2⟩
    (refine go ?_)
    (refine WW.ifB rfl (fun hz1 => ?_) (fun hz1 => ?_))
    · have hi : i < x.now.length := by omega
      (refine go ?_)
      refine WL.call rfl (by first | exact True.intro | exact rfl) gSL (cache_isFree_ae hgg i hi (by omega)) ?_
      cases hp : freeP x i with
      | true =>
        (refine go ?_)
        refine WW.ret (PureQ.finD ?_)
        have he : (List.range x.now.length).findIdx (freeP x) = i := by
          rcases Nat.lt_or_ge i ((List.range x.now.length).findIdx (freeP x)) with h1 | h1
          · have := List.not_of_lt_findIdx h1
            rw [List.getElem_range, hp] at this; simp at this
          · omega
        rw [freeI, he, if_pos hi]
        exact fz_i rfl
      | false =>
        (refine go ?_)
        refine ⟨i + 1, gSUB, ⟨rfl, by omega, ?_⟩, by omega⟩
        rcases Nat.lt_or_ge i ((List.range x.now.length).findIdx (freeP x)) with h1 | h1
        · exact h1
        · have he : (List.range x.now.length).findIdx (freeP x) = i := by omega
          have := List.findIdx_getElem (p := freeP x) (w := by rw [he, hlr]; exact hi)
          simp only [he, List.getElem_range] at this
          rw [hp] at this; cases this
    · (refine go ?_)
      refine WW.ret (PureQ.finD ?_)
      rw [freeI, if_neg (by omega)]
      exact fz_i rfl
end
theorem cache_head_ae (lba : Int) (hl : 0 ≤ lba ∧ lba < 32) (h : AHeap) : AE Tryz.prog 167 [.int .i64 lba] h (.imm 1 ((putB lba 2).map encB)) h := by
  refine AE.pureW is_cache_head (by simp) ?_
  unfold c_cache_head
  (refine go ?_)
  refine WL.call rfl (by first | exact True.intro | exact rfl) gSL (wire_Put_ae lba 2 _ (by decide)) ?_
  (refine go ?_)
  refine WW.ret (PureQ.finD ?_)
  exact fz_imm rfl (flatB _)
theorem geom_Data_ae (n i : Int) (hn : isG n = true) (hi : 0 ≤ i ∧ i < n) (h : AHeap) : AE Tryz.prog 166 [.agg [.int .i64 n], .int .i64 i] h (.int .i64 (i * 32)) h := by
  have hg := isG_cases hn
  refine AE.pureW is_geom_Geom_Data (by simp) ?_
  unfold c_geom_Geom_Data
  (refine go ?_)
  refine WL.call rfl (by first | exact True.intro | exact rfl) gSL (geom_among_ae n i n _) ?_
  rw [show (isG n && decide (0 ≤ i) && decide (i < n)) = true by simp [hn]; omega]
  (refine go ?_)
  refine WW.ret (PureQ.finD ?_)
  exact fz_i rfl
end Go.Proofs.YtafkhpjnihnfpaaGreat


namespace Go.Proofs.YtafkhpjnihnfpaaGreat
open Go Go.Abs

def ixF (p : Lf → Bool) (l : List Lf) : Int := if l.findIdx p < l.length then (l.findIdx p : Int) else -1
theorem slices_IndexFuncL_ae {h : AHeap} {v : AV} {E : Nat} {l : List Lf} {f : Nat} {us ts : List AV} {p : Lf → Bool} (hv : RowV h v l E) (hl : l.length ≤ 1000000) (hb : Bodied f) (hK : ∀ h2, Keeps h h2 → ∀ y, AE Tryz.prog f (us ++ [.agg (encL y)] ++ ts) h2 (.bool (p y)) h2) :
    AE Tryz.prog 164 [v, .func (.func f) us ts] h (.int .i64 (ixF p l)) h := by
  refine AE.pureW is_slices_IndexFuncapi_Leaf_api_Leaf (by simp) ?_
  unfold c_slices_IndexFuncapi_Leaf_api_Leaf
  rcases hv with rfl | ⟨rfl, hE⟩
  · (refine go ?_)
    refine WW.loopE (fun (i : Nat) => [(0, some (.imm 8 (l.map encL))), (1, some (.func (.func f) us ts)), (7, some (.int .i64 l.length)), (8, some (.int .i64 i))])
      (fun i h' => h' = h ∧ i ≤ l.length ∧ i ≤ l.findIdx p) (fun i => l.length - i) 0 gSUB ⟨rfl, Nat.zero_le _, Nat.zero_le _⟩ ?_
    rintro i h' ⟨rfl, c1, c2⟩
    (refine go ?_)
    (refine WW.ifB rfl (fun hz1 => ?_) (fun hz1 => ?_))
    · have hi : i < l.length := by omega
      (repeat first | refine WW.seq ?_ | refine WW.reg ?_ | refine WL.nil ?_ | refine WW.skip ?_ | refine WW.block ?_ | refine thenN ?_ | refine blkN ?_); iterate 2 (refine WL.go ?_)
      (repeat first | refine WW.seq ?_ | refine WW.reg ?_ | refine WL.nil ?_ | refine WW.skip ?_ | refine WW.block ?_ | refine thenN ?_ | refine blkN ?_); iterate 5 (refine WL.go ?_)
      refine WL.fx1 (FX.callv rfl rfl (by first | exact True.intro | exact rfl) hb.ok (hK _ (Keeps.refl _) l[i])) ?_
      cases hp : p l[i] with
      | true =>
        (refine go ?_)
        refine WW.ret (PureQ.finD ?_)
        have he : l.findIdx p = i := by
          rcases Nat.lt_or_ge i (l.findIdx p) with h1 | h1
          · have := List.not_of_lt_findIdx h1; rw [hp] at this; simp at this
          · omega
        rw [ixF, he, if_pos hi]
        exact fz_i rfl
      | false =>
        (refine go ?_)
        refine ⟨i + 1, gSUB, ⟨rfl, by omega, ?_⟩, by omega⟩
        rcases Nat.lt_or_ge i (l.findIdx p) with h1 | h1
        · exact h1
        · have he : l.findIdx p = i := by omega
          have := List.findIdx_getElem (p := p) (w := by rw [he]; exact hi)
          simp only [he] at this
          rw [hp] at this; cases this
    · (refine go ?_)
      refine WW.ret (PureQ.finD ?_)
      rw [ixF, if_neg (by omega)]
      exact fz_i rfl
  · have hEg := hE.g
    (refine go ?_)
    refine WW.loopE (fun (i : Nat) => [(0, some (.ref E 0 l.length)), (1, some (.func (.func f) us ts)), (7, some (.int .i64 l.length)), (8, some (.int .i64 i))])
      (fun i h' => h' = h ∧ i ≤ l.length ∧ i ≤ l.findIdx p) (fun i => l.length - i) 0 gSUB ⟨rfl, Nat.zero_le _, Nat.zero_le _⟩ ?_
    rintro i h' ⟨rfl, c1, c2⟩
    (refine go ?_)
    (refine WW.ifB rfl (fun hz1 => ?_) (fun hz1 => ?_))
    · have hi : i < l.length := by omega
      (repeat first | refine WW.seq ?_ | refine WW.reg ?_ | refine WL.nil ?_ | refine WW.skip ?_ | refine WW.block ?_ | refine thenN ?_ | refine blkN ?_); iterate 2 (refine WL.go ?_)
      (repeat first | refine WW.seq ?_ | refine WW.reg ?_ | refine WL.nil ?_ | refine WW.skip ?_ | refine WW.block ?_ | refine thenN ?_ | refine blkN ?_); iterate 5 (refine WL.go ?_)
      simp only [Nat.zero_add]
      refine WL.fx1 (FX.callv rfl rfl (by first | exact True.intro | exact rfl) hb.ok (hK _ (Keeps.refl _) l[i])) ?_
      cases hp : p l[i] with
      | true =>
        (refine go ?_)
        refine WW.ret (PureQ.finD ?_)
        have he : l.findIdx p = i := by
          rcases Nat.lt_or_ge i (l.findIdx p) with h1 | h1
          · have := List.not_of_lt_findIdx h1; rw [hp] at this; simp at this
          · omega
        rw [ixF, he, if_pos hi]
        exact fz_i rfl
      | false =>
        (refine go ?_)
        refine ⟨i + 1, gSUB, ⟨rfl, by omega, ?_⟩, by omega⟩
        rcases Nat.lt_or_ge i (l.findIdx p) with h1 | h1
        · exact h1
        · have he : l.findIdx p = i := by omega
          have := List.findIdx_getElem (p := p) (w := by rw [he]; exact hi)
          simp only [he] at this
          rw [hp] at this; cases this
    · (refine go ?_)
      refine WW.ret (PureQ.finD ?_)
      rw [ixF, if_neg (by omega)]
      exact fz_i rfl
def slotP (lba : Int) (y : Lf) : Bool := (y.k != 0) && (y.lba == lba)
theorem slot_1_ae {h : AHeap} {p : Nat} {lba : Int} (hp : h.get p = some (.mem 1 [[.int .i64 lba]])) (y : Lf) : AE Tryz.prog 165 [.agg (encL y), .ptr p 0 0] h (.bool (slotP lba y)) h := by
  refine AE.wf fun hwf => ?_
  have h0 := hwf _ _ hp
  refine AE.pureW is_cache_Cache_slot_1 (by simp) ?_
  unfold c_cache_Cache_slot_1
  (refine go ?_)
  (apply WL.andB; exact rfl; exact rfl; exact rfl; exact BP.of; intro hz1)
  · (repeat first | (apply GW.goS; exact Stp.auto) | apply GW.nil | exact rfl)
  (refine go ?_)
  refine WW.ret (PureQ.finD ?_)
  exact fz_b rfl
theorem cache_slot_ae {md : Bool} {h : AHeap} {n : CaN} {x : CaS} (hg : CaG md h n x) (hl : x.now.length ≤ 1000000) (lba : Int) : AE Tryz.prog 129 [.ptr n.c 0 0, .int .i64 lba] h (.int .i64 (ixF (slotP lba) x.now)) h := by
  obtain ⟨g1, g2, ⟨v, g3, g4⟩, g5, g6, g8, g7⟩ := hg
  have hc := g4.g
  have hcl := g4.u.1
  refine AE.pureW is_cache_Cache_slot (by simp) ?_
  unfold c_cache_Cache_slot
  (refine go ?_)
  have hv : RowV (h.put h.next (.mem 1 [[.int .i64 lba]])) v x.now n.nE := g3.kp (W := fun _ => False) (by repeat first | exact Kp.refl | assumption | with_reducible refine Kp.put ?_ (by omega) _ | with_reducible refine Kp.setN ?_ (by omega) _ | with_reducible refine Kp.keep ?_ _ | with_reducible refine Kp.setW ?_ (by rfl) _) (fun h => h)
  refine WL.call rfl (by first | exact True.intro | exact rfl) gSL (slices_IndexFuncL_ae hv hl (f := 165) (us := []) (ts := [.ptr h.next 0 0]) (p := slotP lba) ⟨by kernel_rfl⟩ (fun h2 hk y => slot_1_ae ((hk.2 _ put_used_nm).trans gH) y)) ?_
  (refine go ?_)
  refine WW.ret (PureQ.finD ?_)
  exact fz_i rfl
end Go.Proofs.YtafkhpjnihnfpaaGreat


namespace Go.Proofs.YtafkhpjnihnfpaaGreat
open Go Go.Abs

def CaS.layN (x : CaS) (f : Nat) : Nn := (x.s.ks.cur, (f : Int), x.boot * 4294967296 + ((x.j + 1 : Nat) : Int))
def CaS.layI (x : CaS) (f : Nat) (lba : Int) (d : Bs) : Iss := newI (x.s.L.length + 1) x.s.key (x.layN f) (putB lba 2) d
def CaS.layW (x : CaS) (f : Nat) (lba : Int) (d : Bs) : WS := { x.s with L := x.s.L ++ [x.layI f lba d], pw := x.s.pw.spend, sd := x.s.sd.write ((f : Int) * 32, (x.layI f lba d).out) true }
def CaS.layL (x : CaS) (f : Nat) (lba : Int) (d : Bs) (dirty : Bool) : Lf := ⟨1, dirty, lba, x.s.ks.cur, f, x.boot * 4294967296 + ((x.j + 1 : Nat) : Int), (x.layI f lba d).tag⟩
def CaS.lay (x : CaS) (f : Nat) (lba : Int) (d : Bs) : CaS := { x with s := x.layW f lba d, j := x.j + 1 }
theorem caG_j {md : Bool} {h h' : AHeap} {n : CaN} {x : CaS} (hg : CaG md h n x) (hk : Kp (fun id => id = n.k) h h') (hm : h'.get n.k = some (mkO x.boot (x.j + 1))) : CaG md h' n { x with j := x.j + 1 } := by
  obtain ⟨g1, g2, ⟨v, g3, g4⟩, g5, g6, g8, g7⟩ := hg
  obtain ⟨d1, d2, d3, d4, d5, d6, d7, d8, d9⟩ := g7
  have hE : n.nE ≠ n.k := by rcases d7 with h | h <;> omega
  have hS : n.sE ≠ n.k := by rcases d8 with h | h <;> omega
  exact ⟨g1.kp hk fun id hi e => g6 n.k (.inr (.inl rfl)) (e ▸ hi), ⟨hk.us _ g2.u, hm⟩, ⟨v, g3.kp hk hE, g4.kp hk d1⟩, g5.kp hk (fun e => d4 e.symm) (fun e => d5 e.symm) hS, g6, fun id hi => Nat.lt_of_lt_of_le (g8 id hi) hk.next, ⟨d1, d2, d3, d4, d5, d6, d7, d8, d9⟩⟩
theorem lt_put_set {h : AHeap} {nm id : Nat} {x : AObj} {y : Option AObj} : nm < ((h.put nm x).set id y).next := (put_used_nm (h := h) (x := x)).1
theorem caG_w {md : Bool} {h h' : AHeap} {n : CaN} {x : CaS} {s' : WS} (hg : CaG md h n x) (g' : WG md h' n.w s') (hk : Kp (n.w.own md) h h') : CaG md h' n { x with s := s' } := by
  obtain ⟨g1, g2, ⟨v, g3, g4⟩, g5, g6, g8, g7⟩ := hg
  have hno : ∀ id, n.own id → ¬ n.w.own md id := fun id hi q => g6 id hi (.inl (WN.own_all q))
  exact ⟨g', g2.kp hk (hno _ (.inr (.inl rfl))), ⟨v, g3.kp hk (hno _ (.inr (.inr (.inr (.inr (.inl rfl)))))), g4.kp hk (hno _ (.inl rfl))⟩, g5.kp hk (hno _ (.inr (.inr (.inl rfl)))) (hno _ (.inr (.inr (.inr (.inl rfl))))) (hno _ (.inr (.inr (.inr (.inr (.inr rfl)))))), g6, fun id hi => Nat.lt_of_lt_of_le (g8 id hi) hk.next, g7⟩
set_option maxHeartbeats 8000000 in
theorem cache_lay_ac {h : AHeap} {n : CaN} {x : CaS} {k : Nat} (hg : CaG true h n x) (hx : CaOk true x k) (hk : k ≤ 8000) (hw2 : x.was.length = x.now.length) (hj : x.j < 100) (hcan : x.s.pw.can = true) {f : Nat} (hf : freeI x = f) (hfn : f < x.now.length) (lba : Int) (hlba : 0 ≤ lba ∧ lba < 32) (d : Bs) (hd : d.length = 32) (dirty : Bool) :
    AC Tryz.prog 134 [.ptr n.c 0 0, .int .i64 lba, .imm 1 (d.map encB), .bool dirty] h
      (fun r h' => r = .tup [.int .i64 f, .agg (encL (x.layL f lba d dirty)), .int .i64 0] ∧ CaG true h' n (x.lay f lba d) ∧ Kp (fun id => n.w.own true id ∨ id = n.k) h h') := by
  have hn16 : x.now.length ≤ 16 := by have h1 := isG_cases hx.st.fit.g; have h2 := hx.l; omega
  have hnl : ∀ id, n.w.nm true id → id < h.next := fun id hi => (hg.w.us _ hi).1
  have hna : n.w.a + 11 ≤ h.next := hg.w.w.nx
  have hck : n.c ≠ n.k := hg.dj.1
  have hkl := hg.lt n.k (.inr (.inl rfl))
  have hkn := hg.nm n.k (.inr (.inl rfl))
  have hcn := hg.nm n.c (.inl rfl)
  have hcl := hg.lt n.c (.inl rfl)
  obtain ⟨v, hrow, hcb⟩ := hg.c
  have hc := hcb.g
  have hob := hg.w.w.w
  simp only [wRow] at hob
  have hob1 : h.get (n.w.a + 10) = some (.mem 7 [wRow n.w x.s.n]) := hg.w.w.w
  have hoL : n.w.o < h.next := hnl _ (.inl (.inr (.inr (.inr ⟨rfl, .inl rfl⟩))))
  have htL : n.w.t < h.next := hnl _ (.inl (.inr (.inr (.inr ⟨rfl, .inr (.inl rfl)⟩))))
  have hLk : n.w.l < h.next := hnl _ (.inl (.inr (.inl rfl)))
  have hco : n.c ≠ n.w.o := fun e => hcn (.inl (.inr (.inr (.inr ⟨rfl, .inl e⟩))))
  have hct : n.c ≠ n.w.t := fun e => hcn (.inl (.inr (.inr (.inr ⟨rfl, .inr (.inl e)⟩))))
  have hkg := hg.mr
  refine AC.introW is_cache_Cache_lay (by simp) ?_
  unfold c_cache_Cache_lay
  (refine go ?_)
  refine WL.call rfl (by first | exact True.intro | exact rfl) gSL (cache_free_ae (hg.new (by repeat first | exact Kp.refl | assumption | with_reducible refine Kp.put ?_ (by omega) _ | with_reducible refine Kp.setN ?_ (by omega) _ | with_reducible refine Kp.keep ?_ _ | with_reducible refine Kp.setW ?_ (by rfl) _)) (by omega) hw2) ?_
  rw [hf]
  (refine go ?_)
  refine WL.call rfl (by first | exact True.intro | exact rfl) gSL (world_Key_ae (hg.w.new (by repeat first | exact Kp.refl | assumption | with_reducible refine Kp.put ?_ (by omega) _ | with_reducible refine Kp.setN ?_ (by omega) _ | with_reducible refine Kp.keep ?_ _ | with_reducible refine Kp.setW ?_ (by rfl) _)).w hx.st.cur.2) ?_
  (refine go ?_)
  refine WL.call rfl (by first | exact True.intro | exact rfl) gSL (nonce_Next_ae ((gE : _ = h.get n.k).trans hkg.g) hx.b hj x.s.ks.cur f (by omega)) ?_
  (refine go ?_)
  refine WW.named (fun h3 => CaG true h3 n { x with j := x.j + 1 } ∧ Kp (fun id => id = n.k) h h3 ∧ h3.get h.next = some (.mem 8 [[.int .i64 0, .bool false, .int .i64 0, .int .u32 0, .int .u32 0, .int .u64 0, .int .u64 0, .int .u64 0]]) ∧ h3.get (h.next + 1) = some (.mem 2 [encP x.s.key]) ∧ h3.get (h.next + 2) = some (.mem 3 [encN (x.layN f)]) ∧ h3.next = h.next + 3 ∧ h3.get n.c = some (.mem 6 [[.ptr (n.w.a + 10) 0 0, .ptr n.k 0 0, v, .imm 8 (x.was.map encL), .ptr n.a 0 0, .bool x.bad]])) ⟨caG_j hg (by repeat first | exact Kp.refl | assumption | with_reducible refine Kp.put ?_ (by omega) _ | with_reducible refine Kp.setN ?_ (by omega) _ | with_reducible refine Kp.keep ?_ _ | with_reducible refine Kp.setW ?_ (by simp; done) _) gH, (by repeat first | exact Kp.refl | assumption | with_reducible refine Kp.put ?_ (by omega) _ | with_reducible refine Kp.setN ?_ (by omega) _ | with_reducible refine Kp.keep ?_ _ | with_reducible refine Kp.setW ?_ (by simp; done) _), gH, gH, gH, (gN : _ = h.next + 1 + 1 + 1), gH⟩ ?_
  clear hc hob hob1 hkg hcb hrow
  rintro h3 ⟨g3, k3, r9, r13, r14, hn3, hc⟩
  have hob : h3.get (n.w.a + 10) = some (.mem 7 [wRow n.w x.s.n]) := g3.w.w.w
  simp only [wRow] at hob
  have hoo := g3.w.w.oo rfl
  have hlk := g3.w.w.lk
  simp only [encP] at r13
  simp only [encN, CaS.layN] at r14
  refine WW.dregA [16] [12, 17] [12] [3, 6, 7, 8, 10] [n.w.t, n.w.o] gN (by decide +kernel) ?_
  iterate 3 (refine DA.go ?_)
  refine DA.goF (hs := fun h2 hp2 => by apply Stp.load1; exact rfl; exact (hp2 _ (by omega) (by simp; omega)).trans gH; exact (by first | exact getC_at rfl rfl | exact getC_all rfl | exact getC_sub (Nat.le_of_ble_eq_true rfl) (by first | (simp only [putC, AV.cs, encP, encN, encI, encS, encA, List.take_succ_cons, List.take_zero, List.take_nil, List.drop_succ_cons, List.drop_zero, List.drop_nil, List.cons_append, List.nil_append, List.append_nil, List.length_cons, List.length_nil, Nat.zero_add, Nat.add_zero, Nat.reduceAdd]; exact rfl) | exact rfl) | exact getC_sub (by simp) (by first | (simp only [putC, AV.cs, encP, encN, encI, encS, encA, List.take_succ_cons, List.take_zero, List.take_nil, List.drop_succ_cons, List.drop_zero, List.drop_nil, List.cons_append, List.nil_append, List.append_nil, List.length_cons, List.length_nil, Nat.zero_add, Nat.add_zero, Nat.reduceAdd]; exact rfl) | exact rfl)); exact (by first | exact True.intro | exact rfl)) ?_
  iterate 2 (refine DA.go ?_)
  refine DA.goF (hs := fun h2 hp2 => by apply Stp.load1; exact rfl; exact (hp2 _ (by omega) (by simp; omega)).trans gH; exact (by first | exact getC_at rfl rfl | exact getC_all rfl | exact getC_sub (Nat.le_of_ble_eq_true rfl) (by first | (simp only [putC, AV.cs, encP, encN, encI, encS, encA, List.take_succ_cons, List.take_zero, List.take_nil, List.drop_succ_cons, List.drop_zero, List.drop_nil, List.cons_append, List.nil_append, List.append_nil, List.length_cons, List.length_nil, Nat.zero_add, Nat.add_zero, Nat.reduceAdd]; exact rfl) | exact rfl) | exact getC_sub (by simp) (by first | (simp only [putC, AV.cs, encP, encN, encI, encS, encA, List.take_succ_cons, List.take_zero, List.take_nil, List.drop_succ_cons, List.drop_zero, List.drop_nil, List.cons_append, List.nil_append, List.append_nil, List.length_cons, List.length_nil, Nat.zero_add, Nat.add_zero, Nat.reduceAdd]; exact rfl) | exact rfl)); exact (by first | exact True.intro | exact rfl)) ?_
  refine DA.goF (hs := fun h2 hp2 => by apply Stp.load1; exact rfl; exact (hp2 _ (by omega) (by simp; omega)).trans gH; exact (by first | exact getC_at rfl rfl | exact getC_all rfl | exact getC_sub (Nat.le_of_ble_eq_true rfl) (by first | (simp only [putC, AV.cs, encP, encN, encI, encS, encA, List.take_succ_cons, List.take_zero, List.take_nil, List.drop_succ_cons, List.drop_zero, List.drop_nil, List.cons_append, List.nil_append, List.append_nil, List.length_cons, List.length_nil, Nat.zero_add, Nat.add_zero, Nat.reduceAdd]; exact rfl) | exact rfl) | exact getC_sub (by simp) (by first | (simp only [putC, AV.cs, encP, encN, encI, encS, encA, List.take_succ_cons, List.take_zero, List.take_nil, List.drop_succ_cons, List.drop_zero, List.drop_nil, List.cons_append, List.nil_append, List.append_nil, List.length_cons, List.length_nil, Nat.zero_add, Nat.add_zero, Nat.reduceAdd]; exact rfl) | exact rfl)); exact (by first | exact True.intro | exact rfl)) ?_
  refine DA.goF (hs := fun h2 hp2 => by apply Stp.load1; exact rfl; exact (hp2 _ (by omega) (by simp; omega)).trans gH; exact (by first | exact getC_at rfl rfl | exact getC_all rfl | exact getC_sub (Nat.le_of_ble_eq_true rfl) (by first | (simp only [putC, AV.cs, encP, encN, encI, encS, encA, List.take_succ_cons, List.take_zero, List.take_nil, List.drop_succ_cons, List.drop_zero, List.drop_nil, List.cons_append, List.nil_append, List.append_nil, List.length_cons, List.length_nil, Nat.zero_add, Nat.add_zero, Nat.reduceAdd]; exact rfl) | exact rfl) | exact getC_sub (by simp) (by first | (simp only [putC, AV.cs, encP, encN, encI, encS, encA, List.take_succ_cons, List.take_zero, List.take_nil, List.drop_succ_cons, List.drop_zero, List.drop_nil, List.cons_append, List.nil_append, List.append_nil, List.length_cons, List.length_nil, Nat.zero_add, Nat.add_zero, Nat.reduceAdd]; exact rfl) | exact rfl)); exact (by first | exact True.intro | exact rfl)) ?_
  refine DA.go ?_
  refine DA.callF rfl (by first | exact True.intro | exact rfl) gSL rfl rfl rfl (fun h2 _ => cache_head_ae lba hlba h2) (fun _ _ _ => rfl) ?_
  refine DA.go ?_
  have hLL : x.s.L.length ≤ 1000000 := by have := hx.st.fit.ll; omega
  have hpl : (putB lba 2).length ≤ 4000 := by simp [putB]
  refine DA.callSS (i1 := n.w.t) (i2 := n.w.o) (vs := [.ptr n.w.l 0 0, .agg (encP x.s.key), .agg (encN (x.layN f)), .imm 1 ((putB lba 2).map encB), .imm 1 (d.map encB)]) rfl (by first | exact True.intro | exact rfl) gSL rfl rfl rfl (fun _ hp => PhiW.setW (by simp) (PhiW.setW (by simp) hp)) ⟨by omega, by omega⟩
    (fun h5 hs => lock_SealI_ae ((hlk.same ((hs.2 _ (by omega)).trans gE) (fun _ => ⟨(hs.2 _ (by omega)).trans gE, (hs.2 _ (by omega)).trans gE, (hs.2 _ (by omega)).trans gE⟩)).id rfl) hLL x.s.key (x.layN f) (putB lba 2) d hpl (by omega)) ?_
  (repeat first | refine DA.go ?_ | refine DA.goF ?_ | refine DA.new ?_ | refine DA.set ?_ | refine DA.endL ?_ | refine thenN ?_ | refine blkN ?_)
  have hto : n.w.t ≠ n.w.o := fun e => by
    obtain ⟨q0, q1, q2, q3⟩ := hlk.id rfl
    rw [e, q1] at q2; cases q2
  refine WW.named (fun h5 => CaG true h5 n { x with s := { x.s with L := x.s.L ++ [x.layI f lba d] }, j := x.j + 1 } ∧ Kp (fun id => n.w.own true id ∨ id = n.k) h h5 ∧ h5.get h.next = some (.mem 8 [[.int .i64 0, .bool false, .int .i64 0, .int .u32 0, .int .u32 0, .int .u64 0, .int .u64 0, .int .u64 0]]) ∧ h5.get (h.next + 2) = some (.mem 3 [encN (x.layN f)]) ∧ h5.get (h.next + 3) = some (.mem 3 [encS (x.layI f lba d).out (x.layI f lba d).tag]) ∧ h.next + 4 ≤ h5.next ∧ h5.get n.c = some (.mem 6 [[.ptr (n.w.a + 10) 0 0, .ptr n.k 0 0, v, .imm 8 (x.was.map encL), .ptr n.a 0 0, .bool x.bad]])) ⟨caG_w g3 (g3.w.reL (x.s.L ++ [x.layI f lba d]) (by repeat first | exact Kp.refl | assumption | with_reducible refine Kp.put ?_ (by omega) _ | with_reducible refine Kp.setN ?_ (by omega) _ | with_reducible refine Kp.keep ?_ _ | with_reducible refine Kp.setW ?_ (by simp; done) _) (fun _ => ⟨gH, by rw [List.length_append]; exact gH⟩) nofun) (((by repeat first | exact Kp.refl | assumption | with_reducible refine Kp.put ?_ (by omega) _ | with_reducible refine Kp.setN ?_ (by omega) _ | with_reducible refine Kp.keep ?_ _ | with_reducible refine Kp.setW ?_ (by simp; done) _) : Kp (fun id => id = n.w.o ∨ id = n.w.t) h3 _).mono fun id _ e => .inr (.inr ⟨rfl, e.elim .inl fun e => .inr (.inl e)⟩)), (k3.mono fun _ _ e => .inr e).trans (((by repeat first | exact Kp.refl | assumption | with_reducible refine Kp.put ?_ (by omega) _ | with_reducible refine Kp.setN ?_ (by omega) _ | with_reducible refine Kp.keep ?_ _ | with_reducible refine Kp.setW ?_ (by simp; done) _) : Kp (fun id => id = n.w.o ∨ id = n.w.t) h3 _).mono fun id _ e => .inl (.inr (.inr ⟨rfl, e.elim .inl fun e => .inr (.inl e)⟩))), gH, gH, gH, Nat.succ_le_of_lt lt_put_set, gH⟩ ?_
  clear hc hob hlk g3 k3 r9 r13 r14 hto hoo hn3
  rintro h5 ⟨g5, k5, r9, r14, r16, hn5, hc⟩
  have hob : h5.get (n.w.a + 10) = some (.mem 7 [wRow n.w x.s.n]) := g5.w.w.w
  simp only [wRow] at hob
  have hfs := hx.st.fit
  have hfit : (f : Int) < x.s.n := by have := hx.l; omega
  have hol : (x.layI f lba d).out.length = 32 := by simp only [CaS.layI, newI, sealB, rep_len]; exact hd
  have hin : inB x.s.sd.lasts.length ((f : Int) * 32) ((x.layI f lba d).out.length) = true := by
    have hgg := isG_cases hfs.g
    rw [hol, hfs.sd.len, sizeG_pos hfs.g]
    simp [inB]; omega
  have hll : x.s.sd.lasts.length ≤ 1000000 := by
    have hgg := isG_cases hfs.g
    rw [hfs.sd.len, sizeG_pos hfs.g]; omega
  generalize hI : x.layI f lba d = I at *
  (repeat first | refine WW.seq ?_ | refine WW.reg ?_ | refine WL.nil ?_ | refine WW.skip ?_ | refine WW.block ?_ | refine thenN ?_ | refine blkN ?_)
  refine WW.live fun hl5 => ?_
  refine WW.dregC 18 (by decide +kernel) ?_
  (repeat first | refine PW.go ?_ | refine PW.nil ?_)
  refine PW.call rfl (by first | exact True.intro | exact rfl) gSL (geom_Data_ae x.s.n f hfs.g ⟨by omega, hfit⟩ _) ?_
  (repeat first | refine PW.go ?_ | refine PW.nil ?_)
  refine RunL.call rfl (by first | exact True.intro | exact rfl) gSL (ssd_Write_ae g5.w.w.sd hfs.pw (by omega) hll (Nat.le_trans hfs.sd.kw (by omega)) (Nat.le_trans hfs.sd.kt (by omega)) ((f : Int) * 32) I.out (by omega)) ?_
  rintro _ h6 ⟨rfl, e6⟩
  dsimp only at e6
  rw [hin, hcan] at e6 ⊢
  simp only [Bool.true_and, if_true] at e6
  have k6 : Kp (n.w.own true) h5 h6 := by rw [e6]; exact kp_sd n.w _ _
  have g6 : CaG true h6 n (x.lay f lba d) := by
    have gw : WG true h6 n.w (x.layW f lba d) := by
      rw [e6, CaS.layW, hI]
      exact g5.w.step (g5.w.w.putSd _ _) (kp_sd n.w _ _)
    exact caG_w g5 gw k6
  have hno : ∀ id, n.w.own true id → id < h.next := fun id hi => hnl _ (.inl (WN.own_all hi))
  have t9 := (k6.get _ (hl5 _ _ r9) fun q => by have := hno _ q; omega).trans r9
  have t14 := (k6.get _ (hl5 _ _ r14) fun q => by have := hno _ q; omega).trans r14
  have t16 := (k6.get _ (hl5 _ _ r16) fun q => by have := hno _ q; omega).trans r16
  have k7 : Kp (fun id => n.w.own true id ∨ id = n.k) h h6 := k5.trans (k6.mono fun _ _ q => .inl q)
  have hx6 := k6.next
  simp only [encN, CaS.layN] at t14
  simp only [encS] at t16
  clear hl5 r9 r14 r16 e6 hob hc g5 k5 k6
  (repeat first | refine RunL.go ?_ | refine RunL.endL ?_ | refine thenN ?_ | refine blkN ?_)
  (refine go ?_)
  have kt : Kp (fun id => id = h.next) h6 (h6.set h.next (some (.mem 8 [encL (x.layL f lba d dirty)]))) := Kp.cvt rfl rfl fun id hi => get_set_neE hi rfl
  have hg9 := g6.kp kt (fun id hi e => by have := hnl id hi; omega) (fun id hi e => by have := hg.lt id hi; omega)
  have k9 := k7.trans2 kt fun id hi => .inr (by omega)
  have hle : encL (x.layL f lba d dirty) = [.int .i64 1, .bool dirty, .int .i64 lba, .int .u32 x.s.ks.cur, .int .u32 f, .int .u64 (x.boot * 4294967296 + ((x.j + 1 : Nat) : Int)), .int .u64 I.tag.1, .int .u64 I.tag.2] := by rw [← hI]; rfl
  rw [hle] at hg9 k9 ⊢
  exact WW.ret ⟨.inl rfl, _, gRES, rfl, hg9, k9⟩
end Go.Proofs.YtafkhpjnihnfpaaGreat


namespace Go.Proofs.YtafkhpjnihnfpaaGreat
open Go Go.Abs

section
variable {md : Bool} {h h' : AHeap} {n : CaN} {x : CaS}
theorem caG_row {lv : List Lf} (hg : CaG md h n x) (hw : CaW h n x) (hk : Kp (fun id => id = n.nE) h h') (hb : BoxAt h' n.nE (.mem 8 (lv.map encL))) (hl : lv.length = x.now.length) : CaG md h' n { x with now := lv } ∧ CaW h' n { x with now := lv } := by
  have hw' := hw.kp hg hk (fun e => hw.ne e.symm)
  obtain ⟨g1, g2, ⟨v, g3, g4⟩, g5, g6, g8, g7⟩ := hg
  obtain ⟨d1, d2, d3, d4, d5, d6, d7, d8, d9⟩ := g7
  have hne := hw.ne
  have hu : h'.used n.c := hk.us _ g4.u
  have hE : n.nE ≠ n.k ∧ n.nE ≠ n.a ∧ n.nE ≠ n.q := d7.resolve_left hne
  refine ⟨⟨g1.kp hk fun id hi e => g6 n.nE (.inr (.inr (.inr (.inr (.inl rfl))))) (e ▸ hi), g2.kp hk (fun e => hE.1 e.symm), ⟨.ref n.nE 0 lv.length, .inr ⟨rfl, hb⟩, hu, by rw [hl]; exact hw'.g⟩, g5.kp hk (fun e => hE.2.1 e.symm) (fun e => hE.2.2 e.symm) (fun e => d9 e.symm), g6, fun id hi => Nat.lt_of_lt_of_le (g8 id hi) hk.next, ⟨d1, d2, d3, d4, d5, d6, d7, d8, d9⟩⟩, ⟨by rw [show ({ x with now := lv } : CaS).now.length = x.now.length from hl]; exact hw'.g, hne⟩⟩
theorem caG_ag {E : Nat} {s : AgS} (hg : CaG md h n x) (hw : CaW h n x) (hk : Kp (fun id => id = n.a ∨ id = n.q) h h') (h1 : h.next ≤ E) (h2 : E < h'.next) (ha : AgAt h' n.a n.q E s) : CaG md h' { n with sE := E } { x with ag := s } ∧ CaW h' { n with sE := E } { x with ag := s } := by
  have hdj := hg.dj
  have hw' := hw.kp hg hk (fun e => e.elim (fun e => hdj.2.1 e) (fun e => hdj.2.2.1 e))
  have hrow := hw.row hg
  obtain ⟨g1, g2, ⟨v, g3, g4⟩, g5, g6, g8, g7⟩ := hg
  obtain ⟨d1, d2, d3, d4, d5, d6, d7, d8, d9⟩ := g7
  have hE := d7.resolve_left hw.ne
  have l1 := g8 n.c (.inl rfl)
  have l2 := g8 n.k (.inr (.inl rfl))
  have l3 := g8 n.a (.inr (.inr (.inl rfl)))
  have l4 := g8 n.q (.inr (.inr (.inr (.inl rfl))))
  have l5 := g8 n.nE (.inr (.inr (.inr (.inr (.inl rfl)))))
  have hx := hk.next
  clear d7 d8
  refine ⟨⟨g1.kp hk fun id hi e => ?_, g2.kp hk (by omega), ⟨v, g3.kp hk (by omega), g4.kp hk (by omega)⟩, ha, fun id hi => ?_, fun id hi => ?_, ⟨d1, d2, d3, d4, d5, d6, .inr hE, .inr ⟨by dsimp only; omega, by dsimp only; omega, by dsimp only; omega⟩, by dsimp only; omega⟩⟩, ⟨hw'.g, hw.ne⟩⟩
  · rcases e with rfl | rfl
    · exact g6 _ (.inr (.inr (.inl rfl))) hi
    · exact g6 _ (.inr (.inr (.inr (.inl rfl)))) hi
  · rcases hi with rfl | rfl | rfl | rfl | rfl | rfl
    · exact g6 _ (.inl rfl)
    · exact g6 _ (.inr (.inl rfl))
    · exact g6 _ (.inr (.inr (.inl rfl)))
    · exact g6 _ (.inr (.inr (.inr (.inl rfl))))
    · exact g6 _ (.inr (.inr (.inr (.inr (.inl rfl)))))
    · exact fun q => by have h9 := (g1.us _ q).1; first | omega | (dsimp only at h9; omega)
  · rcases hi with rfl | rfl | rfl | rfl | rfl | rfl <;> first | omega | (dsimp only; omega)
end
set_option maxHeartbeats 4000000 in
theorem cache_puts0_ac {md : Bool} {h : AHeap} {n : CaN} {x : CaS} (hg : CaG md h n x) (hw : CaW h n x) (hag : x.ag = ag0) (l : Lf) (h0 : ixF (slotP l.lba) x.now = -1) (hl : 0 < x.now.length ∧ x.now.length ≤ 16) :
    AC Tryz.prog 135 [.ptr n.c 0 0, .int .i64 0, .agg (encL l)] h (fun r h' => r = .tup [] ∧ ∃ E, h.next ≤ E ∧ CaG md h' { n with sE := E } { x with now := x.now.set 0 l, ag := ag1 } ∧ CaW h' { n with sE := E } { x with now := x.now.set 0 l, ag := ag1 } ∧ Kp n.own h h') := by
  have hrow := hw.row hg
  have hrg := hrow.g
  have hc := hw.g
  have hcl := hg.lt n.c (.inl rfl)
  have hEl := hrow.u.1
  have hce := hw.ne
  refine AC.introW is_cache_Cache_puts (by simp) ?_
  unfold c_cache_Cache_puts
  (refine go ?_)
  refine WL.call rfl (by first | exact True.intro | exact rfl) gSL (cache_slot_ae (hg.new (by repeat first | exact Kp.refl | assumption | with_reducible refine Kp.put ?_ (by omega) _ | with_reducible refine Kp.setN ?_ (by omega) _ | with_reducible refine Kp.keep ?_ _ | with_reducible refine Kp.setW ?_ (by rfl) _)) (by omega) l.lba) ?_
  rw [h0]
  (repeat first | refine WL.go ?_ | refine WW.seq ?_ | refine WW.reg ?_ | refine WL.nil ?_ | refine WW.skip ?_ | refine WW.block ?_ | refine WW.exit ?_ | refine WW.condT rfl ?_ | refine WW.condF rfl ?_ | refine WL.gox ?_ | refine thenN ?_ | refine blkN ?_)
  refine WW.dregC 7 (by decide +kernel) ?_
  (repeat first | refine PW.go ?_ | refine PW.nil ?_)
  refine RunL.go ?_ (hs := by
    apply Stp.storeN
    exact rfl
    exact rfl
    exact gH
    exact (by rw [List.getElem?_map, List.getElem?_eq_getElem hl.1]; rfl : (List.map encL x.now)[0]? = some (encL x.now[0]))
    exact rfl
    exact Nat.le_of_ble_eq_true rfl
    exact rfl
    exact rfl
    exact (by first | exact True.intro | exact rfl))
  (repeat first | refine RunL.go ?_ | refine RunL.endL ?_ | refine thenN ?_ | refine blkN ?_)
  refine WW.live fun hl9 => ?_
  have he : (x.now.map encL).set 0 (encL l) = (x.now.set 0 l).map encL := List.map_set.symm
  refine WW.named (fun h2 => Kp (fun id => id = n.nE) h h2 ∧ BoxAt h2 n.nE (.mem 8 ((x.now.set 0 l).map encL))) ⟨?_, ?_⟩ ?_
  · exact (by repeat first | exact Kp.refl | assumption | with_reducible refine Kp.put ?_ (by omega) _ | with_reducible refine Kp.setN ?_ (by omega) _ | with_reducible refine Kp.keep ?_ _ | with_reducible refine Kp.setW ?_ (by simp; done) _)
  · rw [← he]
    exact ⟨hl9 _ _ gH, gH⟩
  clear hl9 hc hrg
  rintro h2 ⟨k2, b2⟩
  obtain ⟨g2, w2⟩ := caG_row hg hw k2 b2 (List.length_set ..)
  have hc := w2.g
  have hx2 := k2.next
  have hA := g2.ag
  obtain ⟨A1, u, A2, A3⟩ := hA
  simp only [hag] at A1 A2
  have hu : u = .nils := by
    rcases A2 with ⟨q, _⟩ | ⟨_, _, q⟩
    · exact q
    · exact absurd rfl q
  subst hu
  (refine go ?_)
  refine WL.callA rfl (by first | exact True.intro | exact rfl) gSL (age_Touch0_ac A1 A3 hg.dj.2.2.2.2.2.1) ?_
  rintro _ h3 ⟨rfl, E, hE1, hE2, A4, k3⟩
  obtain ⟨g3, w3⟩ := caG_ag g2 w2 k3 hE1 hE2 A4
  (refine go ?_)
  exact ⟨.inr rfl, _, gRES, rfl, E, by omega, g3, w3, (k2.mono fun id _ e => .inr (.inr (.inr (.inr (.inl e))))).trans (k3.mono fun id _ e => e.elim (fun e => .inr (.inr (.inl e))) (fun e => .inr (.inr (.inr (.inl e)))))⟩
end Go.Proofs.YtafkhpjnihnfpaaGreat


namespace Go.Proofs.YtafkhpjnihnfpaaGreat
open Go Go.Abs

section
variable {md : Bool} {h h2 h5 : AHeap} {n : CaN} {x : CaS} {Post : Int → AV → CaS → Prop} {T : Nat} {e : Int} {v : AV}
theorem CaG.out (hg : CaG md h n x) {id : Nat} (hi : n.w.own md id ∨ n.own id) : id < h.next := hi.elim (fun hh => (hg.w.us _ (.inl (WN.own_all hh))).1) (hg.lt id)
theorem CaR.keep {r : AV} (hr : CaR md h2 n Post r h5) {id : Nat} {X : AObj} (hb : BoxAt h2 id X) (h1 : ¬ n.w.nm md id) (h3 : ¬ n.own id) : BoxAt h5 id X := by
  obtain ⟨n', x', e', v', _, _, _, _, _, k⟩ := hr
  exact hb.kp k fun hh => hh.elim (fun q => h1 (.inl (WN.own_all q))) h3
theorem CaR.cell {r : AV} (hg : CaG md h n x) (k2 : Kp (fun _ => False) h h2) (hT : h.next ≤ T) (hT2 : T < h2.next) (hr : CaR md h2 n Post r h5) (Y : AObj) : CaR md h n Post r (h5.set T (some Y)) := by
  obtain ⟨n', x', e', v', rfl, hsc, hP, g', mv, k'⟩ := hr
  have kt : Kp (fun id => id = T) h5 (h5.set T (some Y)) := Kp.cvt rfl rfl fun id hi => get_set_neE hi rfl
  refine ⟨n', x', e', v', rfl, hsc, hP, g'.kp kt (fun id hi hh => ?_) (fun id hi hh => ?_), mv.le k2.next, ?_⟩
  · rcases mv.w id hi with h6 | h6
    · have := (hg.w.us _ h6).1; omega
    · omega
  · rcases mv.o id hi with h6 | h6
    · have := hg.lt _ h6; omega
    · omega
  · exact ((k2.mono fun _ _ h => h.elim).trans k').trans2 kt fun id hi => .inr (by omega)
end
set_option maxHeartbeats 4000000 in
theorem box_call_ac {md : Bool} {h : AHeap} {n : CaN} {x : CaS} {Post : Int → AV → CaS → Prop} {b w : Nat} {sv : AV} (hg : CaG md h n x) (hbx : BoxAt h b (boxO w (.ptr n.c 0 0) sv)) (k lba : Int) (u : AV) (hu : u = .nils ∨ ∃ c, u = .imm 1 c)
    (hac : ∀ h2, Kp (fun _ => False) h h2 → CaG md h2 n x → AC Tryz.prog 57 [.ptr n.c 0 0, .agg [.int .i64 k, .int .i64 lba, u]] h2 (CaR md h2 n Post)) :
    AC Tryz.prog 27 [.ptr b 0 0, .agg [.int .i64 k, .int .i64 lba, u]] h (CaR md h n Post) := by
  refine AC.introW is_play_Box_call (by simp) ?_
  unfold c_play_Box_call
  have hb := hbx.g
  simp only [boxO] at hb
  have hbl := hbx.u.1
  have hcl := hg.lt n.c (.inl rfl)
  rcases hu with rfl | ⟨c, rfl⟩
  all_goals
    (repeat first | refine WL.go ?_ | refine WW.seq ?_ | refine WW.reg ?_ | refine WL.nil ?_ | refine WW.skip ?_ | refine WW.block ?_ | refine WW.exit ?_ | refine WW.condT rfl ?_ | refine WW.condF rfl ?_ | refine WL.gox ?_ | refine thenN ?_ | refine blkN ?_)
    refine WW.live fun hl => ?_
    refine WW.dregC 5 (by decide +kernel) ?_
    (repeat first | refine PW.go ?_ | refine PW.nil ?_)
    refine RunL.call rfl (by first | exact True.intro | exact rfl) gSL (hac _ (by repeat first | exact Kp.refl | assumption | with_reducible refine Kp.put ?_ (by omega) _ | with_reducible refine Kp.setN ?_ (by omega) _ | with_reducible refine Kp.keep ?_ _ | with_reducible refine Kp.setW ?_ (by rfl) _) (hg.new (by repeat first | exact Kp.refl | assumption | with_reducible refine Kp.put ?_ (by omega) _ | with_reducible refine Kp.setN ?_ (by omega) _ | with_reducible refine Kp.keep ?_ _ | with_reducible refine Kp.setW ?_ (by rfl) _))) ?_
    intro r h5 hr
    have b5 := (hr.keep ⟨hl (h.next + 1) (.mem 2 [[.int .i64 0, .nils]]) gH, gH⟩ (fun q => by have := (hg.w.us _ q).1; omega) (fun q => by have := hg.lt _ q; omega)).g
    have hR := fun Y => CaR.cell (T := h.next + 1) hg (by repeat first | exact Kp.refl | assumption | with_reducible refine Kp.put ?_ (by omega) _ | with_reducible refine Kp.setN ?_ (by omega) _ | with_reducible refine Kp.keep ?_ _ | with_reducible refine Kp.setW ?_ (by rfl) _) (by omega) (ltN gN (by omega)) hr Y
    clear hl
    obtain ⟨_, _, e', v', rfl, hsc, _⟩ := hr
    rcases hsc with rfl | ⟨c2, rfl⟩
    all_goals
      (repeat first | refine RunL.go ?_ | refine RunL.endL ?_ | refine thenN ?_ | refine blkN ?_)
      exact WW.ret ⟨.inl rfl, [.agg [.int .i64 e', _]], gRES, hR _⟩
set_option maxHeartbeats 4000000 in
theorem box_DoCall_ac {md : Bool} {h : AHeap} {n : CaN} {x : CaS} {Post : Int → AV → CaS → Prop} {b w : Nat} {sv : AV} (hg : CaG md h n x) (hbx : BoxAt h b (boxO w (.ptr n.c 0 0) sv)) (k lba : Int) (u : AV) (hu : u = .nils ∨ ∃ c, u = .imm 1 c)
    (hac : ∀ h2, Kp (fun _ => False) h h2 → CaG md h2 n x → AC Tryz.prog 57 [.ptr n.c 0 0, .agg [.int .i64 k, .int .i64 lba, u]] h2 (CaR md h2 n Post)) :
    AC Tryz.prog 13 [.ptr b 0 0, .agg [.int .i64 1, .int .i64 k, .int .i64 lba, u, .int .i64 0, .int .i64 0, .nils, .nils]] h (CaR md h n Post) := by
  refine AC.introW is_play_Box_Do (by simp) ?_
  unfold c_play_Box_Do
  rcases hu with rfl | ⟨c, rfl⟩
  all_goals
    (refine go ?_)
    refine WL.live fun hl => ?_
    have hb2 : ∀ h2, Kp (fun _ => False) h h2 → BoxAt h2 b (boxO w (.ptr n.c 0 0) sv) := fun h2 k2 => hbx.kp k2 (fun h => h)
    refine WL.callA rfl (by first | exact True.intro | exact rfl) gSL (box_call_ac (hg.new (n := n) (by repeat first | exact Kp.refl | assumption | with_reducible refine Kp.put ?_ (by omega) _ | with_reducible refine Kp.setN ?_ (by omega) _ | with_reducible refine Kp.keep ?_ _ | with_reducible refine Kp.setW ?_ (by rfl) _)) (hb2 _ (by repeat first | exact Kp.refl | assumption | with_reducible refine Kp.put ?_ (by omega) _ | with_reducible refine Kp.setN ?_ (by omega) _ | with_reducible refine Kp.keep ?_ _ | with_reducible refine Kp.setW ?_ (by rfl) _)) k lba _ (by first | exact .inl rfl | exact .inr ⟨_, rfl⟩) (fun h3 k3 g3 => hac h3 (Kp.trans (by repeat first | exact Kp.refl | assumption | with_reducible refine Kp.put ?_ (by omega) _ | with_reducible refine Kp.setN ?_ (by omega) _ | with_reducible refine Kp.keep ?_ _ | with_reducible refine Kp.setW ?_ (by rfl) _) k3) g3)) ?_
    intro r h5 hr
    have b5 := (hr.keep ⟨hl (h.next + 1) (.mem 2 [[.int .i64 0, .nils]]) gH, gH⟩ (fun q => by have := (hg.w.us _ q).1; omega) (fun q => by have := hg.lt _ q; omega)).g
    have hR := fun Y => CaR.cell (T := h.next + 1) hg (by repeat first | exact Kp.refl | assumption | with_reducible refine Kp.put ?_ (by omega) _ | with_reducible refine Kp.setN ?_ (by omega) _ | with_reducible refine Kp.keep ?_ _ | with_reducible refine Kp.setW ?_ (by rfl) _) (by omega) (ltN gN (by omega)) hr Y
    clear hl hac
    obtain ⟨_, _, e', v', rfl, hsc, _⟩ := hr
    rcases hsc with rfl | ⟨c2, rfl⟩
    all_goals
      (refine go ?_)
      exact WW.ret ⟨.inl rfl, [.agg [.int .i64 e', _]], gRES, hR _⟩
end Go.Proofs.YtafkhpjnihnfpaaGreat


namespace Go.Proofs.YtafkhpjnihnfpaaGreat
open Go Go.Abs

def CaS.wrote (x : CaS) (lba : Int) (d : Bs) : CaS := { x.lay 0 lba d with now := x.now.set 0 (x.layL 0 lba d true), ag := ag1 }
theorem cache_room0_ae {md : Bool} {h : AHeap} {n : CaN} {x : CaS} (hg : CaG md h n x) (hl : x.now.length ≤ 16) (hw2 : x.was.length = x.now.length) (hf : freeI x = 0) : AE Tryz.prog 136 [.ptr n.c 0 0] h (.int .i64 0) h := by
  refine AE.pureW is_cache_Cache_room (by simp) ?_
  unfold c_cache_Cache_room
  (refine go ?_)
  refine WL.call rfl (by first | exact True.intro | exact rfl) gSL (cache_free_ae hg hl hw2) ?_
  rw [hf]
  (refine go ?_)
  refine WW.ret (PureQ.finD ?_)
  exact fz_i rfl
set_option maxHeartbeats 4000000 in
theorem cache_write0_ac {h : AHeap} {n : CaN} {x : CaS} {k : Nat} (hg : CaG true h n x) (hw : CaW h n x) (hx : CaOk true x k) (hk : k ≤ 8000) (hag : x.ag = ag0) (hcan : x.s.pw.can = true) (hj : x.j < 100) (hf : freeI x = 0) (hl : 0 < x.now.length ∧ x.now.length ≤ 16) (hw2 : x.was.length = x.now.length) (lba : Int) (hlba : 0 ≤ lba ∧ lba < 32) (h0 : ixF (slotP lba) x.now = -1) (d : Bs) (hd : d.length = 32) :
    AC Tryz.prog 88 [.ptr n.c 0 0, .agg [.int .i64 2, .int .i64 lba, .imm 1 (d.map encB)]] h (CaR true h n (fun e v x' => e = 0 ∧ v = .nils ∧ x' = x.wrote lba d)) := by
  have hnl : ∀ id, n.w.nm true id → id < h.next := fun id hi => (hg.w.us _ hi).1
  have hnol := hg.lt
  refine AC.introW is_cache_Cache_write (by simp) ?_
  unfold c_cache_Cache_write
  (refine go ?_)
  refine WL.live fun hl9 => ?_
  refine WL.named (fun h2 => CaG true h2 n x ∧ CaW h2 n x ∧ Kp (fun _ => False) h h2 ∧ BoxAt h2 h.next (.mem 3 [[.int .i64 2, .int .i64 lba, .imm 1 (d.map encB)]]) ∧ BoxAt h2 (h.next + 1) (.mem 2 [[.int .i64 0, .nils]]) ∧ h.next + 2 ≤ h2.next) ⟨hg.new (by repeat first | exact Kp.refl | assumption | with_reducible refine Kp.put ?_ (by omega) _ | with_reducible refine Kp.setN ?_ (by omega) _ | with_reducible refine Kp.keep ?_ _ | with_reducible refine Kp.setW ?_ (by rfl) _), hw.kp (W := fun _ => False) hg (by repeat first | exact Kp.refl | assumption | with_reducible refine Kp.put ?_ (by omega) _ | with_reducible refine Kp.setN ?_ (by omega) _ | with_reducible refine Kp.keep ?_ _ | with_reducible refine Kp.setW ?_ (by rfl) _) (fun h => h), (by repeat first | exact Kp.refl | assumption | with_reducible refine Kp.put ?_ (by omega) _ | with_reducible refine Kp.setN ?_ (by omega) _ | with_reducible refine Kp.keep ?_ _ | with_reducible refine Kp.setW ?_ (by rfl) _), ⟨hl9 _ _ gH, gH⟩, ⟨hl9 _ _ gH, gH⟩, (leN gN (by omega))⟩ ?_
  clear hl9
  rintro h2 ⟨g2, w2, k2, b3, b4, hx2⟩
  have r3 := b3.g
  refine WL.call rfl (by first | exact True.intro | exact rfl) gSL (cache_room0_ae g2 hl.2 hw2 hf) ?_
  (refine go ?_)
  refine WL.callA rfl (by first | exact True.intro | exact rfl) gSL (cache_lay_ac g2 hx hk hw2 hj hcan (f := 0) hf hl.1 lba hlba d hd true) ?_
  rintro _ h3 ⟨rfl, g3, k3⟩
  have hno3 : ∀ id, h.next ≤ id → ¬ (n.w.own true id ∨ id = n.k) := fun id hi q => q.elim (fun q => by have := hnl _ (.inl (WN.own_all q)); omega) (fun e => by have := hnol n.k (.inr (.inl rfl)); omega)
  have b4 := b4.kp k3 (hno3 _ (by omega))
  have w3 : CaW h3 n (x.lay 0 lba d) := by
    have q := w2.kp g2 k3 (fun q => q.elim (fun q => g2.nm n.c (.inl rfl) (.inl (WN.own_all q))) (fun e => g2.dj.1 e))
    exact ⟨q.g, q.ne⟩
  have hx3 := k3.next
  clear r3 b3 g2 w2
  (refine go ?_)
  refine WL.named (fun h4 => CaG true h4 n (x.lay 0 lba d) ∧ CaW h4 n (x.lay 0 lba d) ∧ Kp (fun _ => False) h3 h4 ∧ BoxAt h4 (h.next + 1) (.mem 2 [[.int .i64 0, .nils]])) ⟨g3.new (by repeat first | exact Kp.refl | assumption | with_reducible refine Kp.put ?_ (by omega) _ | with_reducible refine Kp.setN ?_ (by omega) _ | with_reducible refine Kp.keep ?_ _ | with_reducible refine Kp.setW ?_ (by rfl) _), w3.kp (W := fun _ => False) g3 (by repeat first | exact Kp.refl | assumption | with_reducible refine Kp.put ?_ (by omega) _ | with_reducible refine Kp.setN ?_ (by omega) _ | with_reducible refine Kp.keep ?_ _ | with_reducible refine Kp.setW ?_ (by rfl) _) (fun h => h), (by repeat first | exact Kp.refl | assumption | with_reducible refine Kp.put ?_ (by omega) _ | with_reducible refine Kp.setN ?_ (by omega) _ | with_reducible refine Kp.keep ?_ _ | with_reducible refine Kp.setW ?_ (by rfl) _), b4.kp (W := fun _ => False) (by repeat first | exact Kp.refl | assumption | with_reducible refine Kp.put ?_ (by omega) _ | with_reducible refine Kp.setN ?_ (by omega) _ | with_reducible refine Kp.keep ?_ _ | with_reducible refine Kp.setW ?_ (by rfl) _) (fun h => h)⟩ ?_
  clear g3 w3 b4
  rintro h4 ⟨g4, w4, k4, b4⟩
  have hx4 := k4.next
  refine WL.callA rfl (by first | exact True.intro | exact rfl) gSL (cache_puts0_ac g4 w4 hag (x.layL 0 lba d true) h0 hl) ?_
  rintro _ h5 ⟨rfl, E, hE, g5, w5, k5⟩
  have hno5 : ∀ id, h.next ≤ id → ¬ n.own id := fun id hi q => by have := hnol _ q; omega
  have b5 := b4.kp k5 (hno5 _ (by omega))
  have r5 := b5.g
  have hk5 : Kp (fun id => n.w.own true id ∨ n.own id) h2 h5 := (k3.mono fun id _ q => q.elim .inl fun e => .inr (.inr (.inl e))).trans ((k4.mono fun _ _ h => h.elim).trans (k5.mono fun _ _ q => .inr q))
  have hr : CaR true h2 n (fun e v x' => e = 0 ∧ v = .nils ∧ x' = x.wrote lba d) (.agg [.int .i64 0, .nils]) h5 := by
    refine ⟨{ n with sE := E }, _, 0, .nils, rfl, .inl rfl, ⟨rfl, rfl, rfl⟩, g5, ⟨fun id hi => ?_, fun id hi => .inl hi, rfl, rfl⟩, hk5⟩
    rcases hi with rfl | rfl | rfl | rfl | rfl | rfl
    · exact .inl (.inl rfl)
    · exact .inl (.inr (.inl rfl))
    · exact .inl (.inr (.inr (.inl rfl)))
    · exact .inl (.inr (.inr (.inr (.inl rfl))))
    · exact .inl (.inr (.inr (.inr (.inr (.inl rfl)))))
    · exact .inr (by first | omega | (dsimp only; omega))
  have hR := fun Y => CaR.cell (T := h.next + 1) hg k2 (by omega) (by omega) hr Y
  clear g4 w4 g5 w5 b4 hr
  (refine go ?_)
  exact WW.ret ⟨.inl rfl, [.agg [.int .i64 0, .nils]], gRES, hR _⟩
end Go.Proofs.YtafkhpjnihnfpaaGreat


namespace Go.Proofs.YtafkhpjnihnfpaaGreat
open Go Go.Abs

section
variable {P : Program} {N j : Nat} {e e' : Env} {h : AHeap} {al ws rs fs : List Nat} {K : Env → AHeap → Prop} {l : List CI} {n : Nat} {W : List Nat} {h0 : AHeap}
/-- In a drawn region: a call that makes one block, under a kept name. -/
theorem DA.callM {d : Option Nat} {f i : Nat} {x : AObj} {xs : List Opd} {g : Option (Nat × Bool)} {vs us : List AV} {r : AV} (hv : evL e xs = some us) (hg : met e g) (hs : SubL us vs) (hi : al.idxOf j = i) (ha : al.contains j = true) (hr : rs.contains j = false) (hf : fs.contains j = false)
    (hac : ∀ h2 : AHeap, ¬ h2.used (n + i) → AE P f vs h2 r (h2.put (n + i) x)) (k : DA P N (PhiW n W h0) n al ws rs fs K (j + 1) l (putR d (some r) e) (h.put (n + i) x)) : DA P N (PhiW n W h0) n al ws rs fs K j (⟨d, .call f xs, g⟩ :: l) e h := by
  subst hi
  exact .fx [.put (n + al.idxOf j) x] (fun hz => by rw [ha] at hz; cases hz) (fun hz => by simp [free0] at hz) (fun _ hz => by rw [ha] at hz; cases hz) (fun _ => ⟨_, rfl, fun h2 hu => FX.call hg hv ((hac h2 hu).sub hs)⟩) (fun hz => by rw [hr] at hz; cases hz)
    (fun hz => by rw [ha] at hz; cases hz) (fun h2 hp => PhiW.put (Nat.le_add_right _ _) hp) (fun hz => by rw [hf] at hz; cases hz) k
/-- One that reads alike, whatever is new. -/
theorem DA.goR {Φ : AHeap → Prop} {n0 : Nat} {c : CI} (hs : ∀ h2, Sim n0 al.length h h2 → Stp c e h2 e' h2) (k : DA P N Φ n0 al ws rs fs K (j + 1) l e' h) (hf : fs.contains j = false := by exact rfl) (ha : al.contains j = false := by exact rfl) : DA P N Φ n0 al ws rs fs K j (c :: l) e h := by
  have key : ∀ h2, Sim n0 al.length h h2 → ∃ r, e' = putR c.d r e ∧ FX P N c e h2 r h2 ∧ (free0 c.i = true → h2 = h2 ∧ ∀ h3, FX P N c e h3 r h3) := fun h2 h3 => FX.of_stp (hs h2 h3)
  obtain ⟨r, he, hx, hz⟩ := key h Sim.refl
  subst he
  refine .fx [] (fun _ => hx) (fun hy => .inr ⟨rfl, (hz hy).2⟩) (fun _ _ => rfl) (fun hy => by rw [ha] at hy; cases hy) (fun _ h2 h3 => ?_) (fun _ => ⟨by simp, fun _ u hu => by simp at hu⟩) (fun _ h2 => h2) (fun hy => by rw [hf] at hy; cases hy) k
  obtain ⟨r2, he2, hx2, _⟩ := key h2 h3
  cases hd : c.d with
  | none =>
    intro ops i o ho hc e3 hs3 m w a KK QQ hr2 he3 hk
    exact hx2 ops i o ho hc e3 hs3 m w a KK QQ hr2 he3 (by rw [hd] at hk ⊢; exact hk)
  | some d =>
    rw [hd] at he2
    simp only [putR, List.cons.injEq, Prod.mk.injEq, true_and, and_true] at he2
    rw [he2]; exact hx2
end
/-- A row, copied: one that may be written. -/
theorem bytes_CloneM_ae {h : AHeap} {nm : Nat} {l : Bs} (hn : ¬ h.used nm) (hne : l ≠ []) (hl : l.length ≤ 1000000) : AE Tryz.prog 33 [.imm 1 (l.map encB)] h (.ref nm 0 l.length) (h.put nm (.mem 1 (l.map encB))) := by
  refine AC.introW is_bytes_Clone (by simp) ?_
  unfold c_bytes_Clone
  (repeat first | refine WW.seq ?_ | refine WW.reg ?_ | refine WL.nil ?_ | refine WW.skip ?_ | refine WW.block ?_ | refine thenN ?_ | refine blkN ?_); iterate 1 (refine WL.go ?_)
  (repeat first | refine WW.seq ?_ | refine WW.reg ?_ | refine WL.nil ?_ | refine WW.skip ?_ | refine WW.block ?_ | refine thenN ?_ | refine blkN ?_); iterate 1 (refine WL.go ?_)
  refine WL.fq1 (FQ.isnil rfl (by first | exact True.intro | exact rfl)) ?_
  rintro _ h2 ⟨b, rfl, e2, hb⟩
  subst e2
  (repeat first | refine WW.seq ?_ | refine WW.reg ?_ | refine WL.nil ?_ | refine WW.skip ?_ | refine WW.block ?_ | refine thenN ?_ | refine blkN ?_)
  (refine WW.ifB rfl (fun hz1 => ?_) (fun hz1 => ?_))
  · exfalso
    have : l.map encB = [] := hb hz1
    exact hne (by simpa using this)
  (repeat first | refine WW.seq ?_ | refine WW.reg ?_ | refine WL.nil ?_ | refine WW.skip ?_ | refine WW.block ?_ | refine thenN ?_ | refine blkN ?_)
  (repeat first | refine WW.seq ?_ | refine WW.reg ?_ | refine WL.nil ?_ | refine WW.skip ?_ | refine WW.block ?_ | refine thenN ?_ | refine blkN ?_); iterate 2 (refine WL.go ?_)
  refine WL.fx1 (FX.appM (nm := nm) (c := l.map encB) hn rfl rfl rfl (by simpa using hne) (by simp; omega) (by first | exact True.intro | exact rfl)) ?_
  rw [List.length_map]
  (refine go ?_)
  exact WW.ret ⟨.inl rfl, _, gRES, rfl, rfl⟩
/-- What is remembered, told with rows that may be written. -/
def encIR (x : Iss) (d b : Nat) : List AV := [.int .u64 x.key.1, .int .u64 x.key.2, .int .u32 x.n.1, .int .u32 x.n.2.1, .int .u64 x.n.2.2, .imm 1 (x.head.map encB), .ref d 0 x.data.length, .ref b 0 x.out.length, .int .u64 x.tag.1, .int .u64 x.tag.2]
set_option maxHeartbeats 4000000 in
theorem oracle_toldM_ac (x : Iss) (hx : x.head.length ≤ 1000000 ∧ x.data.length ≤ 1000000 ∧ x.out.length ≤ 1000000) (hd : x.data ≠ []) (ho : x.out ≠ []) (h : AHeap) : AC Tryz.prog 109 [.agg (encI x)] h (fun r h' => ∃ d b, r = .agg (encIR x d b) ∧ h'.get d = some (.mem 1 (x.data.map encB)) ∧ h'.get b = some (.mem 1 (x.out.map encB)) ∧ d ≠ b ∧ h.next ≤ d ∧ h.next ≤ b ∧ d < h'.next ∧ b < h'.next ∧ (∀ h0 : AHeap, Keeps h0 h → Keeps h0 h') ∧ ∀ id, id < h.next → h'.get id = h.get id) := by
  refine AC.introW is_oracle_told (by simp) ?_
  unfold c_oracle_told
  (repeat first | refine WL.go ?_ | refine WW.seq ?_ | refine WW.reg ?_ | refine WL.nil ?_ | refine WW.skip ?_ | refine WW.block ?_ | refine WW.exit ?_ | refine WW.condT rfl ?_ | refine WW.condF rfl ?_ | refine WL.gox ?_ | refine thenN ?_ | refine blkN ?_)
  refine WW.dregA [5, 9] [11, 13, 16] [8] [] [h.next] gN (by decide +kernel) ?_
  (repeat first | refine DA.go ?_ | refine DA.goF ?_ | refine DA.new ?_ | refine DA.set ?_ | refine DA.endL ?_ | refine thenN ?_ | refine blkN ?_)
  refine DA.callS rfl (by first | exact True.intro | exact rfl) gSL rfl rfl rfl (bytes_Clone_ae x.head hx.1 _) ?_
  (repeat first | refine DA.go ?_ | refine DA.goF ?_ | refine DA.new ?_ | refine DA.set ?_ | refine DA.endL ?_ | refine thenN ?_ | refine blkN ?_)
  refine DA.callM rfl (by first | exact True.intro | exact rfl) gSL (i := 0) rfl rfl rfl rfl (fun h2 hu => bytes_CloneM_ae hu hd hx.2.1) ?_
  (repeat first | refine DA.go ?_ | refine DA.goF ?_ | refine DA.new ?_ | refine DA.set ?_ | refine DA.endL ?_ | refine thenN ?_ | refine blkN ?_)
  refine DA.goR (fun h2 h3 => by apply Stp.load1; exact rfl; exact (h3.2 _ (by simp; omega)).trans gH; exact (by first | exact getC_at rfl rfl | exact getC_all rfl | exact getC_sub (Nat.le_of_ble_eq_true rfl) (by first | (simp only [putC, AV.cs, encP, encN, encI, encS, encA, List.take_succ_cons, List.take_zero, List.take_nil, List.drop_succ_cons, List.drop_zero, List.drop_nil, List.cons_append, List.nil_append, List.append_nil, List.length_cons, List.length_nil, Nat.zero_add, Nat.add_zero, Nat.reduceAdd]; exact rfl) | exact rfl) | exact getC_sub (by simp) (by first | (simp only [putC, AV.cs, encP, encN, encI, encS, encA, List.take_succ_cons, List.take_zero, List.take_nil, List.drop_succ_cons, List.drop_zero, List.drop_nil, List.cons_append, List.nil_append, List.append_nil, List.length_cons, List.length_nil, Nat.zero_add, Nat.add_zero, Nat.reduceAdd]; exact rfl) | exact rfl)); exact (by first | exact True.intro | exact rfl)) ?_
  (repeat first | refine DA.go ?_ | refine DA.goF ?_ | refine DA.new ?_ | refine DA.set ?_ | refine DA.endL ?_ | refine thenN ?_ | refine blkN ?_)
  refine DA.callM rfl (by first | exact True.intro | exact rfl) gSL (i := 1) rfl rfl rfl rfl (fun h2 hu => bytes_CloneM_ae hu ho hx.2.2) ?_
  (repeat first | refine DA.go ?_ | refine DA.goF ?_ | refine DA.new ?_ | refine DA.set ?_ | refine DA.endL ?_ | refine thenN ?_ | refine blkN ?_)
  (refine go ?_)
  refine WW.ret ⟨.inl rfl, _, gRES, _, _, rfl, gH, gH, by omega, by omega, by omega, ltN (n := h.next + 4) ?_ (by omega), ltN (n := h.next + 4) ?_ (by omega), fun h0 k0 => by have := k0.1; exact gK, fun id hi => gE⟩
  all_goals
    repeat first | with_reducible refine next_setE ?_ | with_reducible refine next_putK (by omega) ?_
    exact next_keepE (n := h.next + 2) (k := 2) gN
theorem oracle_IssuedM_ac {h : AHeap} {o t s g : Nat} {x : Iss} {S : List Bs} (hO : OrAt h o t s g [x] S) (hx : x.head.length ≤ 1000000 ∧ x.data.length ≤ 1000000 ∧ x.out.length ≤ 1000000) (hd : x.data ≠ []) (ho : x.out ≠ []) : AC Tryz.prog 70 [.ptr o 0 0] h (fun r h' => ∃ d b, r = .imm 10 [encIR x d b] ∧ h'.get d = some (.mem 1 (x.data.map encB)) ∧ h'.get b = some (.mem 1 (x.out.map encB)) ∧ d ≠ b ∧ h.next ≤ d ∧ h.next ≤ b ∧ d < h'.next ∧ b < h'.next ∧ (∀ h0 : AHeap, Keeps h0 h → Keeps h0 h') ∧ ∀ id, id < h.next → h'.get id = h.get id) := by
  obtain ⟨q1, q2, q3⟩ := hO
  refine AC.introW is_oracle_Oracle_Issued (by simp) ?_
  unfold c_oracle_Oracle_Issued
  (refine go ?_)
  refine WW.loopE (fun (i : Option (Nat × Nat)) => [(3, some (match i with | none => .nils | some (d, b) => .imm 10 [encIR x d b])), (11, some (.app t g 10 [encI x])), (12, some (.int .i64 1)), (13, some (.int .i64 (if i.isSome then 1 else 0)))])
    (fun i h' => (∀ h0 : AHeap, Keeps h0 h → Keeps h0 h') ∧ (∀ id, id < h.next → h'.get id = h.get id) ∧ h.next ≤ h'.next ∧ ∀ d b, i = some (d, b) → h'.get d = some (.mem 1 (x.data.map encB)) ∧ h'.get b = some (.mem 1 (x.out.map encB)) ∧ d ≠ b ∧ h.next ≤ d ∧ h.next ≤ b ∧ d < h'.next ∧ b < h'.next) (fun i => if i.isSome then 0 else 1) none gSUB ⟨fun _ k => k, fun _ _ => rfl, Nat.le_refl _, nofun⟩ ?_
  rintro i h' ⟨k1, kq, k2, k3⟩
  cases i with
  | none =>
    (refine go ?_)
    refine WL.callA rfl (by first | exact True.intro | exact rfl) gSL (oracle_toldM_ac x hx hd ho _) ?_
    rintro _ h2 ⟨d, b, rfl, g1, g2, g3, g4, g5, g6, g7, g8, gq⟩
    have e1 : (h'.put h'.next (.mem 10 [encI x])).next = h'.next + 1 := gN
    have g9 : ∀ h0 : AHeap, Keeps h0 h → Keeps h0 h2 := fun h0 k0 => g8 h0 (by have k4 := k1 h0 k0; have := k4.1; exact gK)
    (repeat first | refine WW.seq ?_ | refine WW.reg ?_ | refine WL.nil ?_ | refine WW.skip ?_ | refine WW.block ?_ | refine thenN ?_ | refine blkN ?_); iterate 1 (refine WL.go ?_)
    refine WL.fx1 (FX.appI rfl rfl rfl (by simp) (by first | exact True.intro | exact rfl)) ?_
    (refine go ?_)
    have k4 := (g9 h (Keeps.refl _)).1
    refine ⟨some (d, b), gSUB, ⟨g9, fun id hi => (gq id (Nat.lt_of_lt_of_le (Nat.lt_of_lt_of_le hi k2) gLE)).trans ((show _ = h'.get id from gE).trans (kq id hi)), k4, fun d b hdb => ?_⟩, by simp⟩
    cases hdb
    have f4 : h'.next ≤ d := Nat.le_trans gLE g4
    have f5 : h'.next ≤ b := Nat.le_trans gLE g5
    exact ⟨g1, g2, g3, by omega, by omega, g6, g7⟩
  | some p =>
    obtain ⟨d, b⟩ := p
    obtain ⟨g1, g2, g3, g4, g5, g6, g7⟩ := k3 d b rfl
    (refine go ?_)
    exact WW.ret ⟨.inl rfl, _, gRES, d, b, rfl, g1, g2, g3, g4, g5, g6, g7, k1, kq⟩
end Go.Proofs.YtafkhpjnihnfpaaGreat


namespace Go.Proofs.YtafkhpjnihnfpaaGreat
open Go Go.Abs

theorem lock_IssuedM_ac {h : AHeap} {l o t s g : Nat} {x : Iss} {S : List Bs} (hl : IdAt h l o t s g [x] S) (hx : x.head.length ≤ 1000000 ∧ x.data.length ≤ 1000000 ∧ x.out.length ≤ 1000000) (hd : x.data ≠ []) (ho : x.out ≠ []) : AC Tryz.prog 34 [.ptr l 0 0] h (fun r h' => ∃ d b, r = .imm 10 [encIR x d b] ∧ h'.get d = some (.mem 1 (x.data.map encB)) ∧ h.next ≤ d ∧ d < h'.next ∧ (∀ h0 : AHeap, Keeps h0 h → Keeps h0 h') ∧ ∀ id, id < h.next → h'.get id = h.get id) := by
  obtain ⟨q0, hO⟩ := hl
  refine AC.introW is_lock_Lock_Issued (by simp) ?_
  unfold c_lock_Lock_Issued
  simp only [idC] at q0
  (refine go ?_)
  refine WL.fxr (FXR.callv rfl rfl (by first | exact True.intro | exact rfl) (by kernel_rfl) (oracle_IssuedM_ac hO hx hd ho)) ?_
  rintro _ h2 ⟨_, rfl, d, b, rfl, g1, g2, g3, g4, g5, g6, g7, g8, gq⟩
  (refine go ?_)
  exact WW.ret ⟨.inl rfl, _, gRES, d, b, rfl, g1, g4, g6, g8, gq⟩
set_option maxHeartbeats 4000000 in
theorem audit_Secrets1_ac {h : AHeap} {n : WN} {s : WS} {x : Iss} (hg : WG true h n s) (hL : s.L = [x]) (hx : x.head.length ≤ 1000000 ∧ x.data.length ≤ 1000000 ∧ x.out.length ≤ 1000000) (hd : x.data ≠ []) (ho : x.out ≠ []) (he : 0 ≤ x.n.1 ∧ x.n.1 < 4294967296) (hep : x.n.1 ∈ s.ks.epochs) (hsl : x.n.2.1 ≠ 65535) :
    AC Tryz.prog 19 [.ptr (n.a + 10) 0 0] h (fun r h' => ∃ D, r = .imm 1 [[.ref D 0 x.data.length]] ∧ BoxAt h' D (.mem 1 (x.data.map encB)) ∧ h.next ≤ D ∧ Kp (fun _ => False) h h') := by
  have hob := hg.w.w
  simp only [wRow] at hob
  have hna : n.a + 11 ≤ h.next := hg.w.nx
  have hnE : n.E < h.next := hg.w.nB.2
  have hid := hg.w.lk.id rfl
  rw [hL] at hid
  refine AC.introW is_audit_Secrets (by simp) ?_
  unfold c_audit_Secrets
  (refine go ?_)
  refine WL.callA rfl (by first | exact True.intro | exact rfl) gSL (AC.used (lock_IssuedM_ac hid hx hd ho)) ?_
  rintro _ h2 ⟨⟨d, b, rfl, g1, g2, g3, g4, g5⟩, u1, u2⟩
  have k2 : Kp (fun _ => False) h h2 := ⟨(g4 h (Keeps.refl _)).1, u1, fun id hu _ => g5 id hu.1⟩
  have D2 : BoxAt h2 d (.mem 1 (x.data.map encB)) := ⟨u2 _ _ g1, g1⟩
  have gW2 := hg.new k2
  have hx2 := k2.next
  clear g4 g5 u1 u2 g1 hid hob
  (refine go ?_)
  refine WW.loopE (fun (i : Bool) => [(0, some (.ptr (n.a + 10) 0 0)), (3, some (if i then .imm 1 [[.ref d 0 x.data.length]] else .nils)), (14, some (.imm 10 [encIR x d b])), (15, some (.int .i64 1)), (16, some (.int .i64 (if i then 1 else 0)))])
    (fun i h' => Kp (fun _ => False) h2 h') (fun i => if i then 0 else 1) false gSUB Kp.refl ?_
  rintro i h3 k3
  have gW3 := gW2.new k3
  have hob := gW3.w.w
  simp only [wRow] at hob
  have hx3 := k3.next
  cases i with
  | false =>
    (repeat first | refine WL.go ?_ | refine WW.seq ?_ | refine WW.reg ?_ | refine WL.nil ?_ | refine WW.skip ?_ | refine WW.block ?_ | refine WW.exit ?_ | refine WW.condT rfl ?_ | refine WW.condF rfl ?_ | refine WL.gox ?_ | refine thenN ?_ | refine blkN ?_)
    refine WW.named (fun h4 => WG true h4 n s ∧ Kp (fun _ => False) h2 h4 ∧ h4.get h3.next = some (.mem 10 [encIR x d b]) ∧ h3.next < h4.next) ⟨gW3.new (by repeat first | exact Kp.refl | assumption | with_reducible refine Kp.put ?_ (by omega) _ | with_reducible refine Kp.setN ?_ (by omega) _ | with_reducible refine Kp.keep ?_ _ | with_reducible refine Kp.setW ?_ (by rfl) _), k3.trans (by repeat first | exact Kp.refl | assumption | with_reducible refine Kp.put ?_ (by omega) _ | with_reducible refine Kp.setN ?_ (by omega) _ | with_reducible refine Kp.keep ?_ _ | with_reducible refine Kp.setW ?_ (by rfl) _), gH, (ltN gN (by omega))⟩ ?_
    clear hob gW3 k3
    rintro h4 ⟨gW4, k4, t5, hx4⟩
    have hob := gW4.w.w
    simp only [wRow] at hob
    have hna4 : n.a + 11 ≤ h4.next := gW4.w.nx
    have hnE4 : n.E < h4.next := gW4.w.nB.2
    simp only [encIR] at t5
    generalize h3.next = t at *
    refine WW.dregX [11, 12] [3, 6, 7] [] gN (by decide +kernel) ?_
    (refine go ?_)
    refine DW.callSF (by repeat first | exact PhiW.refl | refine PhiW.put (by omega) ?_ | refine PhiW.setW (by simp) ?_ | refine PhiW.setN (by omega) ?_) rfl (by first | exact True.intro | exact rfl) gSL (fun h2 hp2 => keys_Key_ae (gW4.w.ks.same (hp2 (n.a + 9) (by omega) (by simp)) (hp2 n.E (by omega) (by simp))) x.n.1 he) ?_
    rw [if_pos hep, decide_eq_true hep]
    (refine go ?_)
    (refine WW.ifB rfl (fun hz1 => ?_) (fun hz1 => ?_))
    · (repeat first | refine WW.seq ?_ | refine WW.reg ?_ | refine WL.nil ?_ | refine WW.skip ?_ | refine WW.block ?_ | refine thenN ?_ | refine blkN ?_); iterate 4 (refine WL.go ?_)
      refine WL.fx1 (FX.appI rfl rfl rfl (by simp) (by first | exact True.intro | exact rfl)) ?_
      (refine go ?_)
      exact ⟨true, gSUB, (by repeat first | exact Kp.refl | assumption | with_reducible refine Kp.put ?_ (by omega) _ | with_reducible refine Kp.setN ?_ (by omega) _ | with_reducible refine Kp.keep ?_ _ | with_reducible refine Kp.setW ?_ (by rfl) _), by simp⟩
    · exact absurd hz1 hsl
  | true =>
    (refine go ?_)
    exact WW.ret ⟨.inl rfl, _, gRES, d, rfl, D2.kp k3 (fun h => h), g2, k2.trans k3⟩
end Go.Proofs.YtafkhpjnihnfpaaGreat


namespace Go.Proofs.YtafkhpjnihnfpaaGreat
open Go Go.Abs

/-- What a commit adds to what was sealed. -/
theorem doC_L {s : WS} {boot : Int} {j : Nat} {lv : List Lf} : ∀ x ∈ (s.doC true boot j lv).2.1.L, x ∈ s.L ∨ (x.n.2.2 = boot * 4294967296 + ((j + 1 : Nat) : Int) ∧ x.data = rootB (s.doR true lv)) := by
  obtain ⟨_, e2, _, _⟩ := areaW_ks true s s.doA lv
  have a1 : ∀ x ∈ (s.areaW true s.doA lv).L, x ∈ s.L ∨ (x.n.2.2 = boot * 4294967296 + ((j + 1 : Nat) : Int) ∧ x.data = rootB (s.doR true lv)) := fun x hx => by rw [e2] at hx; exact .inl hx
  have a3 : ∀ x ∈ ((s.areaW true s.doA lv).barS.logW true boot j (s.doR true lv)).L, x ∈ s.L ∨ (x.n.2.2 = boot * 4294967296 + ((j + 1 : Nat) : Int) ∧ x.data = rootB (s.doR true lv)) := by
    have := sealL_mem (md := true) (L := (s.areaW true s.doA lv).barS.L) (k := (s.areaW true s.doA lv).barS.key) (n := (s.areaW true s.doA lv).barS.logN boot j) (hd := []) (d := rootB (s.doR true lv)) (P := fun x => x ∈ s.L ∨ (x.n.2.2 = boot * 4294967296 + ((j + 1 : Nat) : Int) ∧ x.data = rootB (s.doR true lv))) a1 (.inr ⟨rfl, rfl⟩)
    exact this
  exact doC_ind (P := fun d => ∀ x ∈ d.2.1.L, x ∈ s.L ∨ (x.n.2.2 = boot * 4294967296 + ((j + 1 : Nat) : Int) ∧ x.data = rootB (s.doR true lv))) (fun _ => a1) (fun _ _ => a1) (fun _ _ _ => a1) (fun _ _ _ _ => a3) (fun _ _ _ _ _ => a3) (fun _ _ _ _ _ _ => a3) (fun _ _ _ _ _ _ => a3)
/-- The last commit, and that the number of its boot is its alone. -/
def LastC (s : WS) (want : List Lf) : Prop :=
  (s.ct.value = 0 ∧ want = List.replicate 4 lf0) ∨ ∃ top e v b tg, Good true s want s.ct.value top e v b tg ∧ ∀ x ∈ s.L, x.n.2.2 / 4294967296 = s.ct.at' → x.data = rootB ⟨s.ct.value, e, s.n, top⟩
structure FoeI (i : Nat) (s : WS) (want : List Lf) : Prop where
  st : WSt true s (60 * i)
  fr : s.pw.Free
  n : s.n = 4
  dk : s.dk.waits = []
  b : s.ct.boots = i
  a : s.ct.at' ≤ i
  one : ∀ x ∈ s.L, x.n.2.2 / 4294967296 ≤ i
  w : want.length = 4
  g : LastC s want
theorem FoeI.step {i : Nat} {s : WS} {want lv : List Lf} (h : FoeI i s want) (hi : i < 12) (m : Int) (hm : -9223372036854775808 ≤ m ∧ m ≤ 9223372036854775807) (hl : lv.length = 4) (hw : ∀ x ∈ lv, x.Wf) (hok : lvOk lv 0 = true) (K : Nat → Bool) :
    WSt true (s.bootS.fused m) (60 * i + 1) ∧ FoeI (i + 1) (((s.bootS.fused m).doC true ((i + 1 : Nat) : Int) 0 lv).2.1.crash K) (if s.ct.value < ((s.bootS.fused m).doC true ((i + 1 : Nat) : Int) 0 lv).2.1.ct.value then lv else want) ∧ WSt true ((s.bootS.fused m).doC true ((i + 1 : Nat) : Int) 0 lv).2.1 (60 * i + 51) ∧ ((s.bootS.fused m).doC true ((i + 1 : Nat) : Int) 0 lv).2.1.dk.waits = [] ∧ ((s.bootS.fused m).doC true ((i + 1 : Nat) : Int) 0 lv).2.1.n = 4 := by
  have S1 : WSt true (s.bootS.fused m) (60 * i + 1) := h.st.boot.fused m hm
  have hb : (s.bootS.fused m).ct = ⟨s.ct.value, s.ct.boots + 1, s.ct.at'⟩ := boot_ct h.fr
  have hln : (lv.length : Int) = (s.bootS.fused m).n := by rw [hl]; exact h.n.symm
  have S2 := doC_wst (md := true) (boot := ((i + 1 : Nat) : Int)) (j := 0) S1 hln
  have hdk : ((s.bootS.fused m).doC true ((i + 1 : Nat) : Int) 0 lv).2.1.dk.waits = [] := by rw [doC_dk]; exact h.dk
  have hn2 := (doC_n (md := true) (s := s.bootS.fused m) (boot := ((i + 1 : Nat) : Int)) (j := 0) (lv := lv)).1
  have hn4 : ((s.bootS.fused m).doC true ((i + 1 : Nat) : Int) 0 lv).2.1.n = 4 := hn2.trans h.n
  have hL := doC_L (s := s.bootS.fused m) (boot := ((i + 1 : Nat) : Int)) (j := 0) (lv := lv)
  have hct := doC_ct (md := true) (s := s.bootS.fused m) (boot := ((i + 1 : Nat) : Int)) (j := 0) (lv := lv)
  have hbb := h.b
  have hone := h.one
  have haa := h.a
  have hq : (((i + 1 : Nat) : Int) * 4294967296 + ((0 + 1 : Nat) : Int)) / 4294967296 = i + 1 := by omega
  have hLs : (s.bootS.fused m).L = s.L := rfl
  rw [hLs] at hL
  have hone2 : ∀ x ∈ ((s.bootS.fused m).doC true ((i + 1 : Nat) : Int) 0 lv).2.1.L, x.n.2.2 / 4294967296 ≤ ((i + 1 : Nat) : Int) := fun x hx => by
    rcases hL x hx with hx | ⟨hx, _⟩
    · have := hone x hx; omega
    · rw [hx, hq]; omega
  refine ⟨S1, ?_, S2, hdk, hn4⟩
  by_cases hd : ((s.bootS.fused m).doC true ((i + 1 : Nat) : Int) 0 lv).1 = 0
  · rw [if_pos hd, hb] at hct
    obtain ⟨_, G⟩ := good_done (md := true) (lv := lv) S1 (by omega) hln hw hok (show ((i + 1 : Nat) : Int) = (s.bootS.fused m).ct.boots by rw [hb]; dsimp only; omega) (j := 0) (by omega) hd
    have hv : ((s.bootS.fused m).doC true ((i + 1 : Nat) : Int) 0 lv).2.1.ct.value = (s.bootS.fused m).ct.value + 1 := by rw [hct, hb]; rfl
    rw [if_pos (by rw [hv, hb]; dsimp only; omega)]
    have hat : ((s.bootS.fused m).doC true ((i + 1 : Nat) : Int) 0 lv).2.1.ct.at' = ((i + 1 : Nat) : Int) := by rw [hct]; show s.ct.boots + 1 = _; omega
    refine ⟨(S2.crash K).mono (by omega), crash_free _ _, hn4, rfl, by show ((s.bootS.fused m).doC true ((i + 1 : Nat) : Int) 0 lv).2.1.ct.boots = _; rw [hct]; show s.ct.boots + 1 = _; omega, by show ((s.bootS.fused m).doC true ((i + 1 : Nat) : Int) 0 lv).2.1.ct.at' ≤ _; omega, hone2, hl, .inr ?_⟩
    rw [← hv] at G
    refine ⟨_, _, _, _, _, G.settle S2.fit K, fun x hx hxa => ?_⟩
    rcases hL x hx with hx | ⟨_, hx⟩
    · have := hone x hx
      have hxa' : x.n.2.2 / 4294967296 = ((s.bootS.fused m).doC true ((i + 1 : Nat) : Int) 0 lv).2.1.ct.at' := hxa
      omega
    · rw [hx]
      show rootB ⟨(s.bootS.fused m).ct.value + 1, (s.bootS.fused m).ks.cur, (s.bootS.fused m).n, _⟩ = rootB ⟨((s.bootS.fused m).doC true ((i + 1 : Nat) : Int) 0 lv).2.1.ct.value, _, ((s.bootS.fused m).doC true ((i + 1 : Nat) : Int) 0 lv).2.1.n, _⟩
      rw [hv, hn2]
  · rw [if_neg hd] at hct
    rw [if_neg (by rw [hct, hb]; dsimp only; omega)]
    refine ⟨(S2.crash K).mono (by omega), crash_free _ _, hn4, rfl, by show ((s.bootS.fused m).doC true ((i + 1 : Nat) : Int) 0 lv).2.1.ct.boots = _; rw [hct, hb]; dsimp only; omega, by show ((s.bootS.fused m).doC true ((i + 1 : Nat) : Int) 0 lv).2.1.ct.at' ≤ _; rw [hct, hb]; dsimp only; omega, hone2, h.w, ?_⟩
    rcases h.g with ⟨g1, g2⟩ | ⟨top, e, v, b, tg, G, g2⟩
    · exact .inl ⟨by show ((s.bootS.fused m).doC true ((i + 1 : Nat) : Int) 0 lv).2.1.ct.value = 0; rw [hct, hb]; exact g1, g2⟩
    · refine .inr ⟨top, e, v, b, tg, ?_, fun x hx hxa => ?_⟩
      · have G1 : Good true (s.bootS.fused m) want (s.bootS.fused m).ct.value top e v b tg := by
          rw [show (s.bootS.fused m).ct.value = s.ct.value by rw [hb]]
          exact G.to rfl rfl (by rw [hb]) G.op (Pre.refl _) G.kl G.kr
        have G2 := G1.undone (lw := lv) (boot := ((i + 1 : Nat) : Int)) (j := 0) S1 hln hd
        rw [show (s.bootS.fused m).ct.value = ((s.bootS.fused m).doC true ((i + 1 : Nat) : Int) 0 lv).2.1.ct.value by rw [hct]] at G2
        exact G2.settle S2.fit K
      · have hxa' : x.n.2.2 / 4294967296 = ((s.bootS.fused m).doC true ((i + 1 : Nat) : Int) 0 lv).2.1.ct.at' := hxa
        rw [hct, hb] at hxa'
        rcases hL x hx with hx | ⟨hx, _⟩
        · rw [g2 x hx hxa']
          show rootB ⟨s.ct.value, e, s.n, top⟩ = rootB ⟨((s.bootS.fused m).doC true ((i + 1 : Nat) : Int) 0 lv).2.1.ct.value, e, ((s.bootS.fused m).doC true ((i + 1 : Nat) : Int) 0 lv).2.1.n, top⟩
          rw [hct, hb, hn2]; rfl
        · rw [hx, hq] at hxa'; dsimp only at hxa'; omega
theorem LastC.load {s : WS} {want : List Lf} {k : Nat} (h : LastC s want) (hs : s.Fit k) (hgo : s.pw.gone = false) (hn : s.n = 4) : s.loadE true = 0 ∧ s.loadL true = want := by
  rcases h with ⟨g1, g2⟩ | ⟨top, e, v, b, tg, G, _⟩
  · obtain ⟨q1, q2, _⟩ := load_zero (md := true) hgo g1
    exact ⟨q1, by rw [q2, hn, g2]; rfl⟩
  · exact G.load hs hgo
end Go.Proofs.YtafkhpjnihnfpaaGreat


namespace Go.Proofs.YtafkhpjnihnfpaaGreat
open Go Go.Abs

theorem caOk0 : CaOk true (caNew (ws0 4 1) 4) 1 := ⟨(wst0 true (m := 4) rfl 1).boot, by decide, by decide, rfl, wf0, by decide⟩
section
variable {s : WS} {o : Nat} {u : UInt8}
end
end Go.Proofs.YtafkhpjnihnfpaaGreat


namespace Go.Proofs.YtafkhpjnihnfpaaGreat
open Go Go.Abs

def nought : Bs := List.replicate 32 0
theorem nought_len : nought.length = 32 := rfl
theorem nought_enc : List.replicate 32 [AV.int .u8 0] = nought.map encB := rfl
/-- A first write through a box. -/
theorem box_DoWrite0_ac {h : AHeap} {n : CaN} {x : CaS} {k : Nat} {b w : Nat} {sv : AV} (hg : CaG true h n x) (hw : CaW h n x) (hbx : BoxAt h b (boxO w (.ptr n.c 0 0) sv)) (hx : CaOk true x k) (hk : k ≤ 8000) (hgo : x.s.pw.gone = false) (hb : x.bad = false) (hag : x.ag = ag0) (hcan : x.s.pw.can = true) (hj : x.j < 100) (hf : freeI x = 0) (hl : 0 < x.now.length ∧ x.now.length ≤ 16) (hw2 : x.was.length = x.now.length) (lba : Int) (hlba : 0 ≤ lba ∧ lba < 32) (h0 : ixF (slotP lba) x.now = -1) (d : Bs) (hd : d.length = 32) :
    AC Tryz.prog 13 [.ptr b 0 0, .agg [.int .i64 1, .int .i64 2, .int .i64 lba, .imm 1 (d.map encB), .int .i64 0, .int .i64 0, .nils, .nils]] h (CaR true h n (fun e v x' => e = 0 ∧ v = .nils ∧ x' = x.wrote lba d)) :=
  box_DoCall_ac hg hbx 2 lba (.imm 1 (d.map encB)) (.inr ⟨_, rfl⟩) fun h2 k2 g2 => cache_Do_ac g2 hgo hb 2 lba (.imm 1 (d.map encB)) (.inr ⟨_, rfl⟩) (by omega) (fun h3 => model_Is2_ae lba _ (by simpa using hd) (by simp; omega) h3) fun h3 k3 g3 => cache_write0_ac g3 (hw.kp (W := fun _ => False) hg (k2.trans k3) (fun h => h)) hx hk hag hcan hj hf hl hw2 lba hlba h0 d hd
theorem free00 : freeI (caNew (ws0 4 1) 4) = 0 := rfl
theorem slot00 (lba : Int) : ixF (slotP lba) (caNew (ws0 4 1) 4).now = -1 := rfl
set_option maxHeartbeats 8000000 in
theorem law30_AuditOwn_ae (lba : Int) (h : AHeap) : AE Tryz.prog 8 [.int .i64 lba] h (.bool true) h := by
  refine AE.pureW is_law30_AuditOwn (by simp) ?_
  unfold c_law30_AuditOwn
  (refine go ?_)
  (apply WL.orB; exact rfl; exact rfl; exact rfl; exact BP.of; intro hz1)
  · (repeat first | (apply GW.goS; exact Stp.auto) | apply GW.nil | exact rfl)
  (refine go ?_)
  (refine WW.ifB rfl (fun hz2 => ?_) (fun hz2 => ?_))
  · (refine go ?_)
    refine WW.ret (PureQ.finD ?_)
    exact fz_b rfl
  have hlba : 0 ≤ lba ∧ lba < 32 := by simp at hz2; omega
  clear hz2
  (refine go ?_)
  refine WL.callA rfl (by first | exact True.intro | exact rfl) gSL (play_NewW_ac true 4 rfl 1 h) ?_
  rintro _ h1 ⟨N, b, rfl, g1, b1, hn, hN, hb, ⟨hb1, hb2⟩, k1, w1⟩
  have hbl1 := b1.u.1
  have hx1 := k1.next
  (repeat first | refine WW.seq ?_ | refine WW.reg ?_ | refine WL.nil ?_ | refine WW.skip ?_ | refine WW.block ?_ | refine thenN ?_ | refine blkN ?_); iterate 5 (refine WL.go ?_)
  (repeat first | refine WW.seq ?_ | refine WW.reg ?_ | refine WL.nil ?_ | refine WW.skip ?_ | refine WW.block ?_ | refine thenN ?_ | refine blkN ?_); iterate 2 (refine WL.go ?_)
  (repeat first | refine WW.seq ?_ | refine WW.reg ?_ | refine WL.nil ?_ | refine WW.skip ?_ | refine WW.block ?_ | refine thenN ?_ | refine blkN ?_)
  refine WW.condF rfl ?_
  (repeat first | refine WW.seq ?_ | refine WW.reg ?_ | refine WL.nil ?_ | refine WW.skip ?_ | refine WW.block ?_ | refine thenN ?_ | refine blkN ?_); iterate 2 (refine WL.go ?_)
  refine WL.fx1 (FX.mkslI (n := 32) rfl rfl rfl rfl (by decide) (by first | exact True.intro | exact rfl)) ?_
  rw [nought_enc]
  (refine go ?_)
  have hd : nought.length = 32 := nought_len
  generalize hdn : nought = d at *
  refine WL.callA rfl (by first | exact True.intro | exact rfl) gSL (box_DoWrite0_ac g1 w1 b1 caOk0 (by omega) rfl rfl rfl rfl (by decide) free00 (by decide) rfl lba hlba (slot00 lba) d hd) ?_
  rintro _ h2 ⟨n2, x2, e2, v2, rfl, _, ⟨rfl, rfl, rfl⟩, g2, mv2, k2⟩
  have hwn : ∀ id, n2.w.nm true id → h.next ≤ id := fun id hi => (mv2.w id hi).elim (hn id) (fun q => Nat.le_trans hx1 q)
  have hbn : ¬ n2.w.nm true b := fun hi => (mv2.w b hi).elim hb1 (fun q => by omega)
  have bx2 : BoxAt h2 b (boxO (n2.w.a + 10) (.ptr N.c 0 0) .nils) := by
    rw [mv2.a]
    exact b1.kp k2 (fun hh => hh.elim (fun q => hb1 (.inl (WN.own_all q))) hb2)
  have kA : Kp (fun id => h.next ≤ id) h h2 := k1.trans (k2.mono fun id _ hh => hh.elim (fun q => hn id (.inl (WN.own_all q))) (hN id))
  have gW := g2.w
  have hbl2 := bx2.u.1
  have hL : ((caNew (ws0 4 1) 4).wrote lba d).s.L = [(caNew (ws0 4 1) 4).layI 0 lba d] := rfl
  have hX1 : ((caNew (ws0 4 1) 4).layI 0 lba d).data = d := rfl
  have hX2 : ((caNew (ws0 4 1) 4).layI 0 lba d).n.1 = 1 := rfl
  have hX3 : ((caNew (ws0 4 1) 4).layI 0 lba d).n.2.1 ≠ 65535 := by show ((0 : Nat) : Int) ≠ 65535; decide
  have hX4 : ((caNew (ws0 4 1) 4).layI 0 lba d).head.length ≤ 1000000 := by simp [CaS.layI, newI, putB]
  have hX5 : ((caNew (ws0 4 1) 4).layI 0 lba d).out.length = 32 := by simp only [CaS.layI, newI, sealB, rep_len]; exact hd
  have hX6 : (1 : Int) ∈ ((caNew (ws0 4 1) 4).wrote lba d).s.ks.epochs := by show (1 : Int) ∈ [1]; simp
  clear g1 g2 mv2 k1 k2 b1 hn hN hb1 hb2 hbl1 hx1 w1
  generalize n2.w = W at *
  generalize (caNew (ws0 4 1) 4).layI 0 lba d = X at *
  generalize ((caNew (ws0 4 1) 4).wrote lba d).s = s2 at *
  clear n2
  have hS : ∀ h3, WG true h3 W s2 → AC Tryz.prog 19 [.ptr (W.a + 10) 0 0] h3 (fun r h' => ∃ D, r = .imm 1 [[.ref D 0 32]] ∧ BoxAt h' D (.mem 1 (d.map encB)) ∧ h3.next ≤ D ∧ Kp (fun _ => False) h3 h') := fun h3 g3 => by
    have hdd : X.data.length = 32 := by rw [hX1]; exact hd
    have := audit_Secrets1_ac g3 hL ⟨hX4, by omega, by omega⟩ (by intro e; rw [e] at hdd; simp at hdd) (by intro e; rw [e] at hX5; simp at hX5) (by rw [hX2]; decide) (by rw [hX2]; exact hX6) hX3
    rw [hdd, hX1] at this
    exact this
  clear hX1 hX2 hX3 hX4 hX5 hX6 hL
  have hw2 := gW.us (W.a + 10) (.inl (.inr (.inr (.inl (by omega)))))
  have hbg := bx2.g
  simp only [boxO] at hbg
  (refine go ?_)
  refine WL.call rfl (by first | exact True.intro | exact rfl) gSL (box_World_ae hbg hw2) ?_
  (refine go ?_)
  refine WL.callA rfl (by first | exact True.intro | exact rfl) gSL (hS h2 gW) ?_
  rintro _ h3 ⟨D, rfl, bD, hD, k3⟩
  have gW3 := gW.new k3
  have bx3 := bx2.kp k3 (fun h => h)
  have kB := kA.trans (k3.mono fun _ _ h => h.elim)
  have hDg := bD.g
  clear hbg hw2
  obtain ⟨d0, d1, d2, d3, d', rfl⟩ : ∃ d0 d1 d2 d3 d', d = d0 :: d1 :: d2 :: d3 :: d' := by
    match d, hd with
    | d0 :: d1 :: d2 :: d3 :: d', _ => exact ⟨d0, d1, d2, d3, d', rfl⟩
  (refine go ?_)
  have hlt2 : ∀ id, W.nm true id → id < h2.next := fun id hi => (gW.us _ hi).1
  refine WL.named (fun h4 => Kp (fun id => id = D) h3 h4) (by repeat first | exact Kp.refl | assumption | with_reducible refine Kp.put ?_ (by omega) _ | with_reducible refine Kp.setN ?_ (by omega) _ | with_reducible refine Kp.keep ?_ _ | with_reducible refine Kp.setW ?_ (by simp; done) _) ?_
  rintro h4 k4
  have gW4 := gW3.kp k4 (fun id hi e => by have := hlt2 _ hi; omega)
  have bx4 := bx3.kp k4 (by omega)
  have hh2 := kA.next
  have kC : Kp (fun id => h.next ≤ id) h h4 := kB.trans (k4.mono fun id _ e => by omega)
  have hw4 := gW4.us (W.a + 10) (.inl (.inr (.inr (.inl (by omega)))))
  have hbg := bx4.g
  simp only [boxO] at hbg
  clear gW gW3 bx2 bx3 kA kB bD hDg k3 k4
  refine WL.call rfl (by first | exact True.intro | exact rfl) gSL (box_World_ae hbg hw4) ?_
  (refine go ?_)
  refine WL.callA rfl (by first | exact True.intro | exact rfl) gSL (hS h4 gW4) ?_
  rintro _ h5 ⟨D', rfl, bD', hD', k5⟩
  have kD := kC.trans (k5.mono fun _ _ h => h.elim)
  have r1 : rdS h5.get 1 (.ref D' 0 32) = some ((d0 :: d1 :: d2 :: d3 :: d').map encB) := by
    rw [rdS_ref bD'.g, List.drop_zero, List.take_of_length_le (by rw [List.length_map]; omega)]
  have hDg' := bD'.g
  clear hS gW4 bx4 kC hbg hw4 bD' k5
  (repeat first | refine WL.go ?_ | refine WW.seq ?_ | refine WW.reg ?_ | refine WL.nil ?_ | refine WW.skip ?_ | refine WW.block ?_ | refine WW.exit ?_ | refine WW.condT rfl ?_ | refine WW.condF rfl ?_ | refine WL.gox ?_ | refine thenN ?_ | refine blkN ?_)
  refine WW.dregX [] [] [] gN (by decide +kernel) ?_
  (refine go ?_)
  refine DW.go ?_ (hs := Stp.b2s rfl r1 toB_map (by first | exact True.intro | exact rfl))
  refine DW.fxR (FX.mkslI (n := 32) rfl rfl rfl rfl (by decide) (by first | exact True.intro | exact rfl)) rfl rfl ?_
  rw [nought_enc, hdn]
  (refine go ?_)
  (refine DW.spB rfl (fun hz7 => ?_) (fun hz7 => ?_))
  rotate_left
  · simp at hz7
  (refine go ?_)
  refine DW.callS rfl (by first | exact True.intro | exact rfl) gSL rfl (law30_known_ae _) ?_
  (refine go ?_)
  have k10 := kD.keeps (fun _ h => h)
  refine WW.ret (PureQ.finD ?_)
  exact fz_b rfl
theorem top_AuditOwn (c0 : List AV) (t0 : TypL [.i .i64] c0) : AE Tryz.prog 8 [c0.headD .nilp] noHeap (.bool true) noHeap := by
  obtain ⟨a, rfl, _⟩ := int_of t0
  exact law30_AuditOwn_ae a noHeap
end Go.Proofs.YtafkhpjnihnfpaaGreat



/- What the statement's proof needs, part 6. -/
import Derived.Test.YthblcmnhiccnhaaGreatQPlayCrash5
set_option linter.all false
set_option maxRecDepth 100000
namespace Go.Proofs.YthblcmnhiccnhaaGreat
open Go Go.Abs

def z5p : CC := .seq (.reg [qM 8 (.c (.bool false))]) (.seq (.seq (.reg [qM 14 (.t 0),qQ 15 (.bin .lss (.t 14) (.c (.int .i64 0))),qM 16 (.t 15),qG 17 (.mov (.t 0)) 16 false,qG 18 (.bin .geq (.t 17) (.c (.int .i64 32))) 16 false,qQ 19 (.pick (.t 16) (.c (.bool true)) (.t 18)),qM 20 (.t 19),qG 21 (.mov (.t 2)) 20 false,qG 22 (.bin .lss (.t 21) (.c (.int .i64 0))) 20 false,qQ 23 (.pick (.t 20) (.c (.bool true)) (.t 22)),qM 24 (.t 23),qG 25 (.mov (.t 2)) 24 false,qG 26 (.bin .gtr (.t 25) (.c (.int .i64 10))) 24 false,qQ 27 (.pick (.t 24) (.c (.bool true)) (.t 26)),qM 28 (.t 27),qG 29 (.mov (.t 3)) 28 false,qG 30 (.len (.t 29)) 28 false,qG 31 (.bin .gtr (.t 30) (.c (.int .i64 20))) 28 false,qQ 32 (.pick (.t 28) (.c (.bool true)) (.t 31))]) (.cond (.t 32) (.seq (.reg [qM 8 (.c (.bool true))]) .ret) .skip)) (.seq (.reg [qQ 34 (.call 15 [.c (.int .i64 4),.c (.int .u64 1),.c (.bool true)]),qM 33 (.t 34),qQ 35 (.ext 0 (.t 33)),qQ 36 (.ext 1 (.t 33)),qM 9 (.t 35),qM 10 (.t 36)]) (.seq (.seq (.reg [qM 37 (.t 9),qQ 38 (.eqv .p false (.t 37) (.c .nilp))]) (.cond (.t 38) (.seq (.reg [qM 8 (.c (.bool false))]) .ret) .skip)) (.seq (.reg [qQ 39 (.mksl 1 [.int .u8 0] 1 (.c (.int .i64 32)) (.c (.int .i64 32))),qM 11 (.t 39)]) (.seq (.reg [qM 40 (.t 11),qM 41 (.t 1),qQ 42 (.iaddr 1 (.t 40) (.c (.int .i64 7))),qR (.store 1 (.t 42) (.t 41))]) (.seq (.seq (.reg [qM 43 (.t 9),qM 44 (.t 0),qM 45 (.t 11),qQ 46 (.build [.int .i64 0,.int .i64 0,.nils] [(0,1,.c (.int .i64 2)),(1,1,.t 44),(2,1,.t 45)]),qQ 47 (.build [.int .i64 0,.int .i64 0,.int .i64 0,.nils,.int .i64 0,.int .i64 0,.nils,.nils] [(0,1,.c (.int .i64 1)),(1,3,.t 46)]),qQ 48 (.call 16 [.t 43,.t 47]),qQ 49 (.fld 0 1 false (.t 48)),qQ 50 (.bin .neq (.t 49) (.c (.int .i64 0))),qM 51 (.t 50),qG 52 (.mov (.t 9)) 51 false,qG 53 (.build [.int .i64 0,.int .i64 0,.nils] [(0,1,.c (.int .i64 3))]) 51 false,qG 54 (.build [.int .i64 0,.int .i64 0,.int .i64 0,.nils,.int .i64 0,.int .i64 0,.nils,.nils] [(0,1,.c (.int .i64 1)),(1,3,.t 53)]) 51 false,qG 55 (.call 16 [.t 52,.t 54]) 51 false,qG 56 (.fld 0 1 false (.t 55)) 51 false,qG 57 (.bin .neq (.t 56) (.c (.int .i64 0))) 51 false,qQ 58 (.pick (.t 51) (.c (.bool true)) (.t 57))]) (.cond (.t 58) (.seq (.reg [qM 8 (.c (.bool false))]) .ret) .skip)) (.seq (.seq (.reg [qM 12 (.c (.int .i64 0))]) (.block 0 (.loop (.seq (.seq (.reg [qM 59 (.t 12),qM 60 (.t 2),qQ 61 (.bin .lss (.t 59) (.t 60))]) (.cond (.t 61) .skip (.exit 0))) (.seq (.block 1 (.seq (.reg [qM 64 (.t 9),qM 65 (.t 3),qQ 66 (.build [.int .i64 0,.int .i64 0,.int .i64 0,.nils,.int .i64 0,.int .i64 0,.nils,.nils] [(0,1,.c (.int .i64 3)),(7,1,.t 65)]),qQ 67 (.call 16 [.t 64,.t 66]),qQ 68 (.fld 0 1 false (.t 67)),qQ 69 (.bin .neq (.t 68) (.c (.int .i64 0)))]) (.cond (.t 69) (.seq (.reg [qM 8 (.c (.bool false))]) .ret) .skip))) (.reg [qM 62 (.t 12),qQ 63 (.bin .add (.t 62) (.c (.int .i64 1))),qM 12 (.t 63)])))))) (.seq (.reg [qM 70 (.t 9),qM 71 (.t 0),qQ 72 (.build [.int .i64 0,.int .i64 0,.nils] [(0,1,.c (.int .i64 1)),(1,1,.t 71)]),qQ 73 (.build [.int .i64 0,.int .i64 0,.int .i64 0,.nils,.int .i64 0,.int .i64 0,.nils,.nils] [(0,1,.c (.int .i64 1)),(1,3,.t 72)]),qQ 74 (.call 16 [.t 70,.t 73]),qQ 13 (.alloc [.int .i64 0,.nils]),qR (.store 2 (.t 13) (.t 74))]) (.seq (.reg [qQ 75 (.faddr 0 (.t 13)),qQ 76 (.load 1 false (.t 75)),qQ 77 (.bin .eql (.t 76) (.c (.int .i64 0))),qM 78 (.t 77),qG 79 (.faddr 1 (.t 13)) 78 true,qG 80 (.load 1 false (.t 79)) 78 true,qG 81 (.b2s (.t 80)) 78 true,qG 82 (.mov (.t 11)) 78 true,qG 83 (.b2s (.t 82)) 78 true,qG 84 (.eqv .s false (.t 81) (.t 83)) 78 true,qQ 85 (.pick (.t 78) (.t 84) (.c (.bool false))),qM 86 (.t 85),qG 87 (.call 17 []) 86 true,qQ 88 (.pick (.t 86) (.t 87) (.c (.bool false))),qM 8 (.t 88)]) .ret)))))))))
theorem zbq : FnIs Tryz.prog 3 89 z5p [.t 8] := ⟨Tryz.f3, _, Tryz.func3, rfl, rfl, by kernel_rfl, by kernel_rfl⟩

def z99 : CC := .seq (.reg [qM 6 (.c .nilp),qM 7 (.c (.int .i64 0))]) (.seq (.reg [qM 12 (.t 0),qM 13 (.t 1),qM 14 (.t 2),qQ 15 (.call 22 [.t 12,.t 13,.t 14]),qM 11 (.t 15),qQ 16 (.ext 0 (.t 11)),qQ 17 (.ext 1 (.t 11)),qM 8 (.t 16),qM 9 (.t 17)]) (.seq (.seq (.reg [qM 18 (.t 9),qQ 19 (.bin .neq (.t 18) (.c (.int .i64 0)))]) (.cond (.t 19) (.seq (.reg [qM 20 (.t 9),qM 6 (.c .nilp),qM 7 (.t 20)]) .ret) .skip)) (.seq (.reg [qM 22 (.t 8),qQ 23 (.call 23 [.t 22]),qM 21 (.t 23),qQ 24 (.ext 0 (.t 21)),qQ 25 (.ext 1 (.t 21)),qM 10 (.t 24),qM 9 (.t 25)]) (.seq (.seq (.reg [qM 26 (.t 9),qQ 27 (.bin .neq (.t 26) (.c (.int .i64 0)))]) (.cond (.t 27) (.seq (.reg [qM 28 (.t 9),qM 6 (.c .nilp),qM 7 (.t 28)]) .ret) .skip)) (.seq (.reg [qM 29 (.t 8),qM 30 (.t 10),qQ 31 (.build [.nilp,.nilp,.nils] [(0,1,.t 29),(1,1,.t 30)]),qQ 32 (.box 3 (.t 31)),qM 6 (.t 32),qM 7 (.c (.int .i64 0))]) .ret)))))
theorem zdg : FnIs Tryz.prog 15 33 z99 [.t 6, .t 7] := ⟨Tryz.f15, _, Tryz.func15, rfl, rfl, by kernel_rfl, by kernel_rfl⟩

def z2f : CC := .seq (.reg [qQ 3 (.box 8 (.t 1)),qQ 4 (.alloc [.int .i64 0,.nils])]) (.seq (.seq (.reg [qM 5 (.t 0),qQ 6 (.eqv .p false (.t 5) (.c .nilp))]) (.cond (.t 6) (.seq (.reg [qQ 7 (.build [.int .i64 0,.nils] [(0,1,.c (.int .i64 1))]),qR (.store 2 (.t 4) (.t 7))]) .ret) .skip)) (.seq (.seq (.reg [qQ 8 (.faddr 0 (.t 3)),qQ 9 (.load 1 false (.t 8))]) (.block 0 (.seq (.reg [qQ 12 (.bin .eql (.t 9) (.c (.int .i64 1))),qM 11 (.t 12)]) (.cond (.t 11) (.seq (.reg [qM 13 (.t 0),qQ 14 (.faddr 1 (.t 3)),qQ 15 (.load 3 true (.t 14)),qQ 16 (.call 54 [.t 13,.t 15]),qR (.store 2 (.t 4) (.t 16))]) .ret) (.seq (.reg [qQ 18 (.bin .eql (.t 9) (.c (.int .i64 2))),qM 17 (.t 18)]) (.cond (.t 17) (.dreg [qM 19 (.t 0),qQ 20 (.nilck (.t 19)),qQ 21 (.faddr 0 (.t 20)),qQ 22 (.load 1 false (.t 21)),qQ 23 (.nilck (.t 22)),qQ 24 (.faddr 1 (.t 23)),qQ 25 (.load 1 false (.t 24)),qQ 26 (.faddr 4 (.t 3)),qQ 27 (.load 1 false (.t 26)),qQ 28 (.call 46 [.t 25,.t 27])] [[],[0],[1],[2],[3],[4],[5],[],[7],[6,8]]) (.seq (.reg [qQ 30 (.bin .eql (.t 9) (.c (.int .i64 3))),qM 29 (.t 30)]) (.cond (.t 29) (.seq (.reg [qM 31 (.t 0),qQ 32 (.faddr 7 (.t 3)),qQ 33 (.load 1 false (.t 32)),qQ 34 (.call 55 [.t 31,.t 33]),qQ 35 (.build [.int .i64 0,.nils] [(0,1,.t 34)]),qR (.store 2 (.t 4) (.t 35))]) .ret) (.seq (.reg [qQ 37 (.bin .eql (.t 9) (.c (.int .i64 4))),qM 36 (.t 37)]) (.cond (.t 36) (.seq (.dreg [qM 38 (.t 0),qQ 39 (.nilck (.t 38)),qQ 40 (.faddr 0 (.t 39)),qQ 41 (.load 1 false (.t 40)),qQ 42 (.nilck (.t 41)),qQ 43 (.faddr 2 (.t 42)),qQ 44 (.load 1 false (.t 43)),qQ 45 (.faddr 5 (.t 3)),qQ 46 (.load 1 false (.t 45)),qQ 47 (.faddr 6 (.t 3)),qQ 48 (.load 1 false (.t 47)),qQ 49 (.call 38 [.t 44,.t 46,.t 48]),qQ 50 (.not (.t 49))] [[],[0],[1],[2],[3],[4],[5],[],[7],[],[9],[6,8,10],[11]]) (.cond (.t 50) (.seq (.reg [qQ 51 (.build [.int .i64 0,.nils] [(0,1,.c (.int .i64 1))]),qR (.store 2 (.t 4) (.t 51))]) .ret) .skip)) (.seq (.reg [qQ 53 (.bin .eql (.t 9) (.c (.int .i64 5))),qM 52 (.t 53)]) (.cond (.t 52) (.dreg [qM 54 (.t 0),qM 55 (.t 0),qQ 56 (.nilck (.t 55)),qQ 57 (.faddr 2 (.t 56)),qQ 58 (.load 1 false (.t 57)),qM 59 (.t 0),qQ 60 (.nilck (.t 59)),qQ 61 (.faddr 0 (.t 60)),qQ 62 (.load 1 false (.t 61)),qQ 63 (.nilck (.t 62)),qQ 64 (.faddr 2 (.t 63)),qQ 65 (.load 1 false (.t 64)),qQ 66 (.call 37 [.t 65]),qQ 67 (.bsl 1 [.t 66]),qQ 68 (.app 1 24 (.t 58) (.t 67)),qQ 69 (.nilck (.t 54)),qQ 70 (.faddr 2 (.t 69)),qR (.store 1 (.t 70) (.t 68))] [[],[],[1],[2],[3],[],[5],[6],[7],[8],[9],[10],[11],[12],[4,13,12],[0,0,1,2,3,4,5,6,7,8,9,10,11,12,13,14],[15,0,1,2,3,4,5,6,7,8,9,10,11,12,13,14],[16,14,14,0,1,2,3,4,5,6,7,8,9,10,11,12,13,14]]) (.seq (.reg [qQ 72 (.bin .eql (.t 9) (.c (.int .i64 6))),qM 71 (.t 72)]) (.cond (.t 71) (.seq (.reg [qM 73 (.t 0),qQ 74 (.faddr 4 (.t 3)),qQ 75 (.load 1 false (.t 74)),qQ 76 (.call 56 [.t 73,.t 75]),qQ 77 (.build [.int .i64 0,.nils] [(0,1,.t 76)]),qR (.store 2 (.t 4) (.t 77))]) .ret) (.seq (.reg [qQ 79 (.bin .eql (.t 9) (.c (.int .i64 7))),qM 78 (.t 79)]) (.cond (.t 78) (.dreg [qM 80 (.t 0),qQ 81 (.nilck (.t 80)),qQ 82 (.faddr 0 (.t 81)),qQ 83 (.load 1 false (.t 82)),qQ 84 (.nilck (.t 83)),qQ 85 (.faddr 3 (.t 84)),qQ 86 (.load 1 false (.t 85)),qQ 87 (.faddr 4 (.t 3)),qQ 88 (.load 1 false (.t 87)),qQ 89 (.bin .neq (.t 88) (.c (.int .i64 0))),qQ 90 (.call 41 [.t 86,.t 89])] [[],[0],[1],[2],[3],[4],[5],[],[7],[8],[6,9]]) (.seq (.reg [qQ 10 (.build [.int .i64 0,.nils] [(0,1,.c (.int .i64 1))]),qR (.store 2 (.t 4) (.t 10))]) .ret))))))))))))))))) (.seq (.reg [qQ 91 (.build [.int .i64 0,.nils] []),qR (.store 2 (.t 4) (.t 91))]) .ret)))
theorem z33 : FnIs Tryz.prog 16 92 z2f [.cell 4 2 true] := ⟨Tryz.f16, _, Tryz.func16, rfl, rfl, by kernel_rfl, by kernel_rfl⟩

def z9v : CC := .seq (.reg [qM 0 (.c (.bool false))]) (.seq (.reg [qQ 6 (.call 15 [.c (.int .i64 4),.c (.int .u64 1),.c (.bool true)]),qM 5 (.t 6),qQ 7 (.ext 0 (.t 5)),qQ 8 (.ext 1 (.t 5)),qM 1 (.t 7),qM 2 (.t 8)]) (.seq (.reg [qQ 10 (.call 15 [.c (.int .i64 3),.c (.int .u64 1),.c (.bool true)]),qM 9 (.t 10),qQ 11 (.ext 0 (.t 9)),qQ 12 (.ext 1 (.t 9)),qM 3 (.t 11),qM 4 (.t 12)]) (.seq (.reg [qM 13 (.t 2),qQ 14 (.bin .eql (.t 13) (.c (.int .i64 0))),qM 15 (.t 14),qG 16 (.mov (.t 4)) 15 true,qG 17 (.bin .eql (.t 16) (.c (.int .i64 1))) 15 true,qQ 18 (.pick (.t 15) (.t 17) (.c (.bool false))),qM 19 (.t 18),qG 20 (.mov (.t 1)) 19 true,qG 21 (.eqv .p true (.t 20) (.c .nilp)) 19 true,qQ 22 (.pick (.t 19) (.t 21) (.c (.bool false))),qM 23 (.t 22),qG 24 (.mov (.t 1)) 23 true,qG 25 (.build [.int .i64 0,.int .i64 0,.int .i64 0,.nils,.int .i64 0,.int .i64 0,.nils,.nils] [(0,1,.c (.int .i64 6))]) 23 true,qG 26 (.call 16 [.t 24,.t 25]) 23 true,qG 27 (.fld 0 1 false (.t 26)) 23 true,qG 28 (.bin .eql (.t 27) (.c (.int .i64 1))) 23 true,qQ 29 (.pick (.t 23) (.t 28) (.c (.bool false))),qM 30 (.t 29),qG 31 (.mov (.t 1)) 30 true,qG 32 (.build [.int .i64 0,.int .i64 0,.int .i64 0,.nils,.int .i64 0,.int .i64 0,.nils,.nils] []) 30 true,qG 33 (.call 16 [.t 31,.t 32]) 30 true,qG 34 (.fld 0 1 false (.t 33)) 30 true,qG 35 (.bin .eql (.t 34) (.c (.int .i64 1))) 30 true,qQ 36 (.pick (.t 30) (.t 35) (.c (.bool false))),qM 0 (.t 36)]) .ret)))
theorem zh7 : FnIs Tryz.prog 17 37 z9v [.t 0] := ⟨Tryz.f17, _, Tryz.func17, rfl, rfl, by kernel_rfl, by kernel_rfl⟩

def z6g : CC := .seq (.reg [qM 2 (.c .nilp),qM 3 (.c (.int .i64 0))]) (.seq (.block 0 (.seq (.reg [qM 12 (.t 0),qQ 13 (.eqv .p false (.t 12) (.c .nilp)),qM 11 (.t 13)]) (.cond (.t 11) (.seq (.reg [qM 2 (.c .nilp),qM 3 (.c (.int .i64 1))]) .ret) (.seq (.reg [qM 15 (.t 0),qQ 16 (.nilck (.t 15)),qQ 17 (.faddr 1 (.t 16)),qQ 18 (.load 1 false (.t 17)),qQ 19 (.call 71 [.t 18]),qQ 20 (.not (.t 19)),qM 21 (.t 20),qG 22 (.mov (.t 0)) 21 false,qG 23 (.nilck (.t 22)) 21 false,qG 24 (.faddr 4 (.t 23)) 21 false,qG 25 (.load 1 false (.t 24)) 21 false,qG 26 (.call 72 [.t 25]) 21 false,qG 27 (.not (.t 26)) 21 false,qQ 28 (.pick (.t 21) (.c (.bool true)) (.t 27)),qM 14 (.t 28)]) (.cond (.t 14) (.seq (.reg [qM 2 (.c .nilp),qM 3 (.c (.int .i64 7))]) .ret) .skip))))) (.seq (.reg [qM 30 (.t 0),qQ 31 (.call 73 [.t 30]),qM 29 (.t 31),qQ 32 (.ext 0 (.t 29)),qQ 33 (.ext 1 (.t 29)),qM 4 (.t 32),qM 5 (.t 33)]) (.seq (.seq (.reg [qM 34 (.t 5),qQ 35 (.bin .neq (.t 34) (.c (.int .i64 0)))]) (.cond (.t 35) (.seq (.reg [qM 36 (.t 5),qM 2 (.c .nilp),qM 3 (.t 36)]) .ret) .skip)) (.seq (.reg [qM 38 (.t 0),qQ 39 (.nilck (.t 38)),qQ 40 (.faddr 4 (.t 39)),qQ 41 (.load 1 false (.t 40)),qQ 42 (.call 75 [.t 41]),qQ 43 (.call 74 [.t 42]),qM 37 (.t 43),qQ 44 (.ext 0 (.t 37)),qQ 45 (.ext 1 (.t 37)),qM 6 (.t 44),qM 5 (.t 45)]) (.seq (.seq (.reg [qM 46 (.t 5),qQ 47 (.bin .neq (.t 46) (.c (.int .i64 0)))]) (.cond (.t 47) (.seq (.reg [qM 48 (.t 5),qM 2 (.c .nilp),qM 3 (.t 48)]) .ret) .skip)) (.seq (.reg [qM 49 (.t 0),qM 50 (.t 6),qM 51 (.t 4),qM 52 (.t 4),qQ 53 (.call 76 [.t 52]),qQ 54 (.call 77 []),qQ 55 (.build [.nilp,.nilp,.nils,.nils,.nilp,.bool false] [(0,1,.t 49),(1,1,.t 50),(2,1,.t 51),(3,1,.t 53),(4,1,.t 54)]),qQ 56 (.box 6 (.t 55)),qM 7 (.t 56)]) (.seq (.seq (.reg [qM 57 (.t 4),qQ 58 (.len (.t 57)),qM 59 (.c (.int .i64 0))]) (.block 1 (.loop (.seq (.reg [qQ 60 (.bin .lss (.t 59) (.t 58))]) (.seq (.cond (.t 60) .skip (.exit 1)) (.seq (.block 2 (.seq (.reg [qM 61 (.t 59),qQ 62 (.iaddr 8 (.t 57) (.t 59)),qQ 63 (.load 8 true (.t 62)),qQ 9 (.alloc [.int .i64 0,.bool false,.int .i64 0,.int .u32 0,.int .u32 0,.int .u64 0,.int .u64 0,.int .u64 0]),qM 8 (.t 61),qR (.store 8 (.t 9) (.t 63))]) (.seq (.reg [qQ 64 (.faddr 0 (.t 9)),qQ 65 (.load 1 false (.t 64)),qQ 66 (.bin .neq (.t 65) (.c (.int .i64 0)))]) (.cond (.t 66) (.reg [qM 67 (.t 7),qQ 68 (.nilck (.t 67)),qQ 69 (.faddr 4 (.t 68)),qQ 70 (.load 1 false (.t 69)),qM 71 (.t 8),qQ 72 (.call 78 [.t 70,.t 71])]) .skip)))) (.reg [qQ 73 (.bin .add (.t 59) (.c (.int .i64 1))),qM 59 (.t 73)]))))))) (.seq (.seq (.reg [qM 74 (.t 7),qQ 75 (.call 79 [.t 74]),qM 10 (.t 75)]) (.seq (.reg [qM 76 (.t 10),qQ 77 (.bin .neq (.t 76) (.c (.int .i64 0)))]) (.cond (.t 77) (.seq (.reg [qM 78 (.t 10),qM 2 (.c .nilp),qM 3 (.t 78)]) .ret) .skip))) (.seq (.reg [qM 79 (.t 7),qM 2 (.t 79),qM 3 (.c (.int .i64 0))]) .ret)))))))))
theorem z9w : FnIs Tryz.prog 23 80 z6g [.t 2, .t 3] := ⟨Tryz.f23, _, Tryz.func23, rfl, rfl, by kernel_rfl, by kernel_rfl⟩

def z75 : CC := .seq (.reg [qQ 3 (.box 3 (.t 1)),qQ 4 (.alloc [.int .i64 0,.nils])]) (.seq (.seq (.reg [qM 5 (.t 0),qQ 6 (.nilck (.t 5)),qQ 7 (.faddr 1 (.t 6)),qQ 8 (.load 1 false (.t 7)),qQ 9 (.eqv .p false (.t 8) (.c .nilp))]) (.cond (.t 9) (.seq (.reg [qQ 10 (.build [.int .i64 0,.nils] [(0,1,.c (.int .i64 8))]),qR (.store 2 (.t 4) (.t 10))]) .ret) .skip)) (.seq (.dreg [qM 11 (.t 0),qQ 12 (.nilck (.t 11)),qQ 13 (.faddr 1 (.t 12)),qQ 14 (.load 1 false (.t 13)),qQ 15 (.load 3 true (.t 3)),qQ 16 (.call 25 [.t 14,.t 15]),qR (.store 2 (.t 4) (.t 16))] [[],[0],[1],[2],[],[3,4],[5,5,0,1,2,3,4,5]]) .ret))
theorem ze9 : FnIs Tryz.prog 54 17 z75 [.cell 4 2 true] := ⟨Tryz.f54, _, Tryz.func54, rfl, rfl, by kernel_rfl, by kernel_rfl⟩

def z6h : CC := .seq (.reg [qM 4 (.c (.int .i64 0))]) (.seq (.reg [qM 7 (.t 0),qQ 8 (.nilck (.t 7)),qQ 9 (.faddr 0 (.t 8)),qQ 10 (.load 1 false (.t 9)),qM 11 (.t 1),qQ 12 (.call 50 [.t 10,.t 11])]) (.seq (.reg [qM 14 (.t 0),qQ 15 (.nilck (.t 14)),qQ 16 (.faddr 0 (.t 15)),qQ 17 (.load 1 false (.t 16)),qQ 18 (.call 23 [.t 17]),qM 13 (.t 18),qQ 19 (.ext 0 (.t 13)),qQ 20 (.ext 1 (.t 13)),qM 5 (.t 19),qM 6 (.t 20)]) (.seq (.reg [qM 21 (.t 0),qM 22 (.t 5),qQ 23 (.nilck (.t 21)),qQ 24 (.faddr 1 (.t 23)),qR (.store 1 (.t 24) (.t 22))]) (.seq (.reg [qM 25 (.t 6),qM 4 (.t 25)]) .ret))))
theorem zcl : FnIs Tryz.prog 55 26 z6h [.t 4] := ⟨Tryz.f55, _, Tryz.func55, rfl, rfl, by kernel_rfl, by kernel_rfl⟩

def z76 : CC := .seq (.reg [qM 4 (.c (.int .i64 0))]) (.seq (.seq (.dreg [qM 5 (.t 1),qQ 6 (.bin .lss (.t 5) (.c (.int .i64 0))),qM 7 (.t 6),qG 8 (.mov (.t 1)) 7 false,qG 9 (.mov (.t 0)) 7 false,qG 10 (.nilck (.t 9)) 7 false,qG 11 (.faddr 2 (.t 10)) 7 false,qG 12 (.load 1 false (.t 11)) 7 false,qG 13 (.len (.t 12)) 7 false,qG 14 (.bin .geq (.t 8) (.t 13)) 7 false,qQ 15 (.pick (.t 7) (.c (.bool true)) (.t 14)),qM 16 (.t 15),qG 17 (.mov (.t 0)) 16 false,qG 18 (.nilck (.t 17)) 16 false,qG 19 (.faddr 0 (.t 18)) 16 false,qG 20 (.load 1 false (.t 19)) 16 false,qG 21 (.nilck (.t 20)) 16 false,qG 22 (.faddr 2 (.t 21)) 16 false,qG 23 (.load 1 false (.t 22)) 16 false,qG 24 (.mov (.t 0)) 16 false,qG 25 (.nilck (.t 24)) 16 false,qG 26 (.faddr 2 (.t 25)) 16 false,qG 27 (.load 1 false (.t 26)) 16 false,qG 28 (.mov (.t 1)) 16 false,qG 29 (.iaddr 1 (.t 27) (.t 28)) 16 false,qG 30 (.load 1 false (.t 29)) 16 false,qG 31 (.call 108 [.t 23,.t 30]) 16 false,qG 32 (.not (.t 31)) 16 false,qQ 33 (.pick (.t 16) (.c (.bool true)) (.t 32))] [[],[0],[1],[2],[2],[4,2],[5,2],[6,2],[7,2],[3,8,2],[2,9],[10,2],[11],[12,11],[13,11],[14,11],[15,11],[16,11],[17,11],[11],[19,11],[20,11],[21,11],[11],[22,23,11],[24,11],[18,25,11,11],[26,11],[11,27]]) (.cond (.t 33) (.seq (.reg [qM 4 (.c (.int .i64 1))]) .ret) .skip)) (.seq (.reg [qM 4 (.c (.int .i64 0))]) .ret))
theorem zea : FnIs Tryz.prog 56 34 z76 [.t 4] := ⟨Tryz.f56, _, Tryz.func56, rfl, rfl, by kernel_rfl, by kernel_rfl⟩

def z1e : CC := .seq (.reg [qM 2 (.c .nils)]) (.seq (.seq (.reg [qM 3 (.t 0),qQ 4 (.isnil false (.t 3))]) (.cond (.t 4) (.seq (.reg [qM 2 (.c .nils)]) .ret) .skip)) (.seq (.reg [qQ 5 (.bsl0),qM 6 (.t 0),qQ 7 (.app 8 56 (.t 5) (.t 6)),qM 2 (.t 7)]) .ret))
theorem z1s : FnIs Tryz.prog 76 8 z1e [.t 2] := ⟨Tryz.f76, _, Tryz.func76, rfl, rfl, by kernel_rfl, by kernel_rfl⟩

def zim : CC := .seq (.reg [qM 0 (.c .nilp)]) (.seq (.reg [qQ 2 (.build [.int .i64 0,.int .i64 0,.int .i64 0,.int .i64 0,.int .i64 0,.int .i64 0,.int .i64 0,.int .i64 0,.int .i64 0,.int .i64 0,.int .i64 0,.int .i64 0,.int .i64 0,.int .i64 0,.int .i64 0,.int .i64 0,.int .i64 0,.nilp] []),qQ 3 (.box 18 (.t 2)),qM 1 (.t 3)]) (.seq (.reg [qM 4 (.t 1),qM 5 (.t 1),qQ 6 (.mkf (.func 125) [.t 5] []),qQ 7 (.build [.nils,.nilf] [(1,1,.t 6)]),qQ 8 (.box 2 (.t 7)),qQ 9 (.nilck (.t 4)),qQ 10 (.faddr 17 (.t 9)),qR (.store 1 (.t 10) (.t 8))]) (.seq (.reg [qM 11 (.t 1),qM 0 (.t 11)]) .ret)))
theorem zp1 : FnIs Tryz.prog 77 12 zim [.t 0] := ⟨Tryz.f77, _, Tryz.func77, rfl, rfl, by kernel_rfl, by kernel_rfl⟩

def z77 : CC := .seq (.reg [qM 4 (.c (.bool false))]) (.seq (.seq (.reg [qM 5 (.t 0),qQ 6 (.eqv .p false (.t 5) (.c .nilp)),qM 7 (.t 6),qG 8 (.mov (.t 1)) 7 false,qG 9 (.bin .lss (.t 8) (.c (.int .i64 0))) 7 false,qQ 10 (.pick (.t 7) (.c (.bool true)) (.t 9)),qM 11 (.t 10),qG 12 (.mov (.t 1)) 11 false,qG 13 (.bin .geq (.t 12) (.c (.int .i64 16))) 11 false,qQ 14 (.pick (.t 11) (.c (.bool true)) (.t 13))]) (.cond (.t 14) (.seq (.reg [qM 4 (.c (.bool false))]) .ret) .skip)) (.seq (.reg [qM 15 (.t 0),qM 16 (.t 1),qQ 17 (.call 126 [.t 15,.t 16])]) (.seq (.reg [qM 18 (.t 0),qQ 19 (.nilck (.t 18)),qQ 20 (.faddr 16 (.t 19)),qQ 21 (.load 1 false (.t 20)),qQ 22 (.bin .add (.t 21) (.c (.int .i64 1))),qQ 23 (.nilck (.t 18)),qQ 24 (.faddr 16 (.t 23)),qR (.store 1 (.t 24) (.t 22))]) (.seq (.dreg [qM 25 (.t 0),qM 26 (.t 1),qM 27 (.t 0),qQ 28 (.nilck (.t 27)),qQ 29 (.faddr 16 (.t 28)),qQ 30 (.load 1 false (.t 29)),qQ 31 (.nilck (.t 25)),qQ 32 (.faddr 0 (.t 31)),qQ 33 (.iaddrA 16 1 (.t 32) (.t 26)),qR (.store 1 (.t 33) (.t 30))] [[],[],[],[2],[3],[4],[0],[6],[7,1,0,1,2,3,4,5],[8,5,0,1,2,3,4,5]]) (.seq (.reg [qM 34 (.t 0),qQ 35 (.nilck (.t 34)),qQ 36 (.faddr 17 (.t 35)),qQ 37 (.load 1 false (.t 36)),qQ 38 (.raw (Ex.mkif 215 (.t 37))),qM 39 (.t 1),qQ 40 (.raw (Ex.mkif 3 (.t 39))),qQ 41 (.call 127 [.t 38,.t 40])]) (.seq (.reg [qM 4 (.c (.bool true))]) .ret))))))
theorem zeb : FnIs Tryz.prog 78 42 z77 [.t 4] := ⟨Tryz.f78, _, Tryz.func78, rfl, rfl, by kernel_rfl, by kernel_rfl⟩

def z45 : CC := .seq (.reg [qM 2 (.c (.int .i64 0))]) (.seq (.seq (.reg [qM 4 (.t 0),qQ 5 (.nilck (.t 4)),qQ 6 (.faddr 0 (.t 5)),qQ 7 (.load 1 false (.t 6)),qQ 8 (.nilck (.t 7)),qQ 9 (.faddr 5 (.t 8)),qQ 10 (.load 1 false (.t 9)),qQ 11 (.call 34 [.t 10]),qQ 12 (.len (.t 11)),qQ 13 (.bin .lss (.t 12) (.c (.int .i64 2)))]) (.cond (.t 13) (.seq (.reg [qM 2 (.c (.int .i64 0))]) .ret) .skip)) (.seq (.seq (.reg [qM 14 (.t 0),qQ 15 (.call 128 [.t 14]),qM 3 (.t 15)]) (.seq (.reg [qM 16 (.t 3),qQ 17 (.bin .neq (.t 16) (.c (.int .i64 0)))]) (.cond (.t 17) (.seq (.reg [qM 18 (.t 3),qM 2 (.t 18)]) .ret) .skip))) (.seq (.reg [qM 19 (.t 0),qQ 20 (.call 129 [.t 19]),qM 2 (.t 20)]) .ret)))
theorem z8f : FnIs Tryz.prog 79 21 z45 [.t 2] := ⟨Tryz.f79, _, Tryz.func79, rfl, rfl, by kernel_rfl, by kernel_rfl⟩

def z6i : CC := .seq (.reg [qQ 3 (.box 3 (.t 1)),qQ 4 (.alloc [.int .i64 0,.nils])]) (.seq (.block 0 (.seq (.reg [qM 7 (.t 0),qQ 8 (.eqv .p false (.t 7) (.c .nilp)),qM 6 (.t 8)]) (.cond (.t 6) (.seq (.reg [qQ 9 (.build [.int .i64 0,.nils] [(0,1,.c (.int .i64 1))]),qR (.store 2 (.t 4) (.t 9))]) .ret) (.seq (.reg [qM 11 (.t 0),qQ 12 (.nilck (.t 11)),qQ 13 (.faddr 0 (.t 12)),qQ 14 (.load 1 false (.t 13)),qQ 15 (.nilck (.t 14)),qQ 16 (.faddr 1 (.t 15)),qQ 17 (.load 1 false (.t 16)),qQ 18 (.call 71 [.t 17]),qQ 19 (.not (.t 18)),qM 10 (.t 19)]) (.cond (.t 10) (.seq (.reg [qQ 20 (.build [.int .i64 0,.nils] [(0,1,.c (.int .i64 7))]),qR (.store 2 (.t 4) (.t 20))]) .ret) (.seq (.reg [qM 22 (.t 0),qQ 23 (.nilck (.t 22)),qQ 24 (.faddr 5 (.t 23)),qQ 25 (.load 1 false (.t 24)),qM 21 (.t 25)]) (.cond (.t 21) (.seq (.reg [qQ 26 (.build [.int .i64 0,.nils] [(0,1,.c (.int .i64 4))]),qR (.store 2 (.t 4) (.t 26))]) .ret) (.seq (.reg [qQ 28 (.load 3 true (.t 3)),qQ 29 (.call 80 [.t 28]),qQ 30 (.not (.t 29)),qM 27 (.t 30)]) (.cond (.t 27) (.seq (.reg [qQ 31 (.build [.int .i64 0,.nils] [(0,1,.c (.int .i64 1))]),qR (.store 2 (.t 4) (.t 31))]) .ret) .skip))))))))) (.seq (.reg [qQ 32 (.raw Ex.mkmap),qR (.raw (Ex.mput MK.i (.t 32) (.c (.int .i64 1)) (.c (.func (.func 81) [] [])))),qR (.raw (Ex.mput MK.i (.t 32) (.c (.int .i64 2)) (.c (.func (.func 82) [] [])))),qR (.raw (Ex.mput MK.i (.t 32) (.c (.int .i64 3)) (.c (.func (.func 83) [] [])))),qR (.raw (Ex.mput MK.i (.t 32) (.c (.int .i64 4)) (.c (.func (.func 84) [] [])))),qR (.raw (Ex.mput MK.i (.t 32) (.c (.int .i64 5)) (.c (.func (.func 85) [] [])))),qM 33 (.t 32),qM 5 (.t 33)]) (.seq (.reg [qM 34 (.t 5),qQ 35 (.faddr 0 (.t 3)),qQ 36 (.load 1 false (.t 35)),qQ 37 (.raw (Ex.look MK.i .nilf false (.t 34) (.t 36))),qM 38 (.t 0),qQ 39 (.load 3 true (.t 3)),qQ 40 (.callv (.t 37) [.t 38,.t 39]),qR (.store 2 (.t 4) (.t 40))]) .ret)))
theorem zcm : FnIs Tryz.prog 25 41 z6i [.cell 4 2 true] := ⟨Tryz.f25, _, Tryz.func25, rfl, rfl, by kernel_rfl, by kernel_rfl⟩

def z78 : CC := .seq (.reg [qM 6 (.c (.bool false))]) (.seq (.dreg [qM 7 (.t 0),qM 8 (.t 1),qQ 9 (.nilck (.t 7)),qQ 10 (.faddr 0 (.t 9)),qQ 11 (.iaddrA 16 1 (.t 10) (.t 8)),qQ 12 (.load 1 false (.t 11)),qM 13 (.t 0),qM 14 (.t 2),qQ 15 (.nilck (.t 13)),qQ 16 (.faddr 0 (.t 15)),qQ 17 (.iaddrA 16 1 (.t 16) (.t 14)),qQ 18 (.load 1 false (.t 17)),qQ 19 (.bin .lss (.t 12) (.t 18)),qM 6 (.t 19)] [[],[],[0],[2],[3,1],[4],[],[],[6],[8],[9,7],[10],[5,11],[12,0,1,2,3,4,5,6,7,8,9,10,11,12]]) .ret)
theorem zec : FnIs Tryz.prog 125 20 z78 [.t 6] := ⟨Tryz.f125, _, Tryz.func125, rfl, rfl, by kernel_rfl, by kernel_rfl⟩

def z8g : CC := .seq (.reg [qM 4 (.c (.bool false))]) (.seq (.seq (.reg [qM 6 (.t 0),qQ 7 (.eqv .p false (.t 6) (.c .nilp))]) (.cond (.t 7) (.seq (.reg [qM 4 (.c (.bool false))]) .ret) .skip)) (.seq (.reg [qM 8 (.t 0),qQ 9 (.nilck (.t 8)),qQ 10 (.faddr 17 (.t 9)),qQ 11 (.load 1 false (.t 10)),qQ 12 (.nilck (.t 11)),qQ 13 (.faddr 0 (.t 12)),qQ 14 (.load 1 false (.t 13)),qM 15 (.t 1),qQ 16 (.call 189 [.t 14,.t 15]),qM 5 (.t 16)]) (.seq (.seq (.reg [qM 17 (.t 5),qQ 18 (.bin .lss (.t 17) (.c (.int .i64 0)))]) (.cond (.t 18) (.seq (.reg [qM 4 (.c (.bool false))]) .ret) .skip)) (.seq (.reg [qM 19 (.t 0),qQ 20 (.nilck (.t 19)),qQ 21 (.faddr 17 (.t 20)),qQ 22 (.load 1 false (.t 21)),qQ 23 (.raw (Ex.mkif 215 (.t 22))),qM 24 (.t 5),qQ 25 (.call 190 [.t 23,.t 24])]) (.seq (.reg [qM 4 (.c (.bool true))]) .ret)))))
theorem zft : FnIs Tryz.prog 126 26 z8g [.t 4] := ⟨Tryz.f126, _, Tryz.func126, rfl, rfl, by kernel_rfl, by kernel_rfl⟩

def z3p : CC := .seq (.reg [qM 4 (.t 0),qM 5 (.t 1),qQ 6 (.raw (Ex.inv "Push" (.t 4) [.t 5]))]) (.reg [qM 7 (.t 0),qM 8 (.t 0),qQ 9 (.raw (Ex.inv "Len" (.t 8) [])),qQ 10 (.bin .sub (.t 9) (.c (.int .i64 1))),qQ 11 (.call 191 [.t 7,.t 10])])
theorem z7k : FnIs Tryz.prog 127 12 z3p [] := ⟨Tryz.f127, _, Tryz.func127, rfl, rfl, by kernel_rfl, by kernel_rfl⟩

def z5t : CC := .seq (.reg [qQ 1 (.box 3 (.t 0)),qM 2 (.c (.bool false))]) (.seq (.seq (.reg [qQ 3 (.faddr 0 (.t 1)),qQ 4 (.load 1 false (.t 3))]) (.block 0 (.seq (.seq (.reg [qQ 6 (.bin .eql (.t 4) (.c (.int .i64 1))),qM 5 (.t 6)]) (.cond (.t 5) .skip (.reg [qQ 7 (.bin .eql (.t 4) (.c (.int .i64 4))),qM 5 (.t 7)]))) (.cond (.t 5) (.seq (.reg [qQ 8 (.faddr 1 (.t 1)),qQ 9 (.load 1 false (.t 8)),qQ 10 (.call 130 [.t 9]),qM 2 (.t 10)]) .ret) (.seq (.reg [qQ 12 (.bin .eql (.t 4) (.c (.int .i64 2))),qM 11 (.t 12)]) (.cond (.t 11) (.seq (.reg [qQ 13 (.faddr 1 (.t 1)),qQ 14 (.load 1 false (.t 13)),qQ 15 (.call 130 [.t 14]),qM 16 (.t 15),qG 17 (.faddr 2 (.t 1)) 16 true,qG 18 (.load 1 false (.t 17)) 16 true,qG 19 (.len (.t 18)) 16 true,qG 20 (.bin .eql (.t 19) (.c (.int .i64 32))) 16 true,qQ 21 (.pick (.t 16) (.t 20) (.c (.bool false))),qM 2 (.t 21)]) .ret) (.seq (.seq (.reg [qQ 23 (.bin .eql (.t 4) (.c (.int .i64 3))),qM 22 (.t 23)]) (.cond (.t 22) .skip (.reg [qQ 24 (.bin .eql (.t 4) (.c (.int .i64 5))),qM 22 (.t 24)]))) (.cond (.t 22) (.seq (.reg [qM 2 (.c (.bool true))]) .ret) .skip)))))))) (.seq (.reg [qM 2 (.c (.bool false))]) .ret))
theorem z7l : FnIs Tryz.prog 80 25 z5t [.t 2] := ⟨Tryz.f80, _, Tryz.func80, rfl, rfl, by kernel_rfl, by kernel_rfl⟩

def z55 : CC := .seq (.reg [qQ 3 (.box 3 (.t 1)),qQ 4 (.alloc [.int .i64 0,.nils])]) (.seq (.seq (.reg [qM 13 (.t 0),qQ 14 (.faddr 1 (.t 3)),qQ 15 (.load 1 false (.t 14)),qQ 16 (.call 131 [.t 13,.t 15]),qM 5 (.t 16)]) (.seq (.reg [qM 17 (.t 5),qQ 18 (.bin .geq (.t 17) (.c (.int .i64 0)))]) (.cond (.t 18) (.seq (.reg [qM 20 (.t 0),qM 21 (.t 5),qQ 22 (.call 132 [.t 20,.t 21]),qM 19 (.t 22),qQ 23 (.ext 0 (.t 19)),qQ 24 (.ext 1 (.t 19)),qM 6 (.t 23),qM 7 (.t 24)]) (.seq (.seq (.reg [qM 25 (.t 7),qQ 26 (.bin .neq (.t 25) (.c (.int .i64 0)))]) (.cond (.t 26) (.seq (.reg [qM 27 (.t 7),qQ 28 (.build [.int .i64 0,.nils] [(0,1,.t 27)]),qR (.store 2 (.t 4) (.t 28))]) .ret) .skip)) (.seq (.reg [qM 29 (.t 0),qQ 30 (.nilck (.t 29)),qQ 31 (.faddr 4 (.t 30)),qQ 32 (.load 1 false (.t 31)),qM 33 (.t 5),qQ 34 (.call 78 [.t 32,.t 33])]) (.seq (.reg [qM 35 (.t 6),qQ 36 (.build [.int .i64 0,.nils] [(1,1,.t 35)]),qR (.store 2 (.t 4) (.t 36))]) .ret)))) .skip))) (.seq (.dreg [qM 38 (.t 0),qQ 39 (.nilck (.t 38)),qQ 40 (.faddr 0 (.t 39)),qQ 41 (.load 1 false (.t 40)),qQ 42 (.nilck (.t 41)),qQ 43 (.faddr 3 (.t 42)),qQ 44 (.load 1 false (.t 43)),qQ 45 (.faddr 1 (.t 3)),qQ 46 (.load 1 false (.t 45)),qQ 47 (.call 32 [.t 44,.t 46]),qM 37 (.t 47),qQ 48 (.ext 0 (.t 37)),qQ 49 (.ext 1 (.t 37)),qM 8 (.t 48),qM 9 (.t 49)] [[],[0],[1],[2],[3],[4],[5],[],[7],[6,8],[9],[10],[10],[11,9,0,1,2,3,4,5,6,7,8,9,10,11],[12,13,0,1,2,3,4,5,6,7,8,9,10,11,12,13]]) (.seq (.seq (.reg [qM 50 (.t 9),qQ 51 (.not (.t 50))]) (.cond (.t 51) (.seq (.reg [qQ 52 (.build [.int .i64 0,.nils] [(0,1,.c (.int .i64 7))]),qR (.store 2 (.t 4) (.t 52))]) .ret) .skip)) (.seq (.seq (.reg [qM 53 (.t 0),qQ 54 (.call 133 [.t 53]),qQ 55 (.bin .lss (.t 54) (.c (.int .i64 0))),qM 56 (.t 55),qG 57 (.mov (.t 0)) 56 false,qG 58 (.nilck (.t 57)) 56 false,qG 59 (.faddr 1 (.t 58)) 56 false,qG 60 (.load 1 false (.t 59)) 56 false,qG 61 (.call 134 [.t 60]) 56 false,qG 62 (.bin .eql (.t 61) (.c (.int .i64 0))) 56 false,qQ 63 (.pick (.t 56) (.c (.bool true)) (.t 62))]) (.cond (.t 63) (.seq (.reg [qM 64 (.t 8),qQ 65 (.build [.int .i64 0,.nils] [(1,1,.t 64)]),qR (.store 2 (.t 4) (.t 65))]) .ret) .skip)) (.seq (.reg [qM 67 (.t 0),qQ 68 (.faddr 1 (.t 3)),qQ 69 (.load 1 false (.t 68)),qM 70 (.t 8),qQ 71 (.call 135 [.t 67,.t 69,.t 70,.c (.bool false)]),qM 66 (.t 71),qQ 72 (.ext 0 (.t 66)),qQ 73 (.ext 1 (.t 66)),qQ 74 (.ext 2 (.t 66)),qQ 11 (.alloc [.int .i64 0,.bool false,.int .i64 0,.int .u32 0,.int .u32 0,.int .u64 0,.int .u64 0,.int .u64 0]),qM 10 (.t 72),qR (.store 8 (.t 11) (.t 73)),qM 12 (.t 74)]) (.seq (.seq (.reg [qM 75 (.t 12),qQ 76 (.bin .neq (.t 75) (.c (.int .i64 0)))]) (.cond (.t 76) (.seq (.reg [qM 77 (.t 12),qQ 78 (.build [.int .i64 0,.nils] [(0,1,.t 77)]),qR (.store 2 (.t 4) (.t 78))]) .ret) .skip)) (.seq (.reg [qM 79 (.t 0),qM 80 (.t 10),qQ 81 (.load 8 true (.t 11)),qQ 82 (.call 136 [.t 79,.t 80,.t 81])]) (.seq (.reg [qM 83 (.t 8),qQ 84 (.build [.int .i64 0,.nils] [(1,1,.t 83)]),qR (.store 2 (.t 4) (.t 84))]) .ret))))))))
theorem za7 : FnIs Tryz.prog 81 85 z55 [.cell 4 2 true] := ⟨Tryz.f81, _, Tryz.func81, rfl, rfl, by kernel_rfl, by kernel_rfl⟩

def z4e : CC := .seq (.reg [qQ 3 (.box 3 (.t 1)),qQ 4 (.alloc [.int .i64 0,.nils])]) (.seq (.seq (.reg [qM 9 (.t 0),qQ 10 (.call 137 [.t 9]),qM 5 (.t 10)]) (.seq (.reg [qM 11 (.t 5),qQ 12 (.bin .neq (.t 11) (.c (.int .i64 0)))]) (.cond (.t 12) (.seq (.reg [qM 13 (.t 5),qQ 14 (.build [.int .i64 0,.nils] [(0,1,.t 13)]),qR (.store 2 (.t 4) (.t 14))]) .ret) .skip))) (.seq (.reg [qM 16 (.t 0),qQ 17 (.faddr 1 (.t 3)),qQ 18 (.load 1 false (.t 17)),qQ 19 (.faddr 2 (.t 3)),qQ 20 (.load 1 false (.t 19)),qQ 21 (.call 135 [.t 16,.t 18,.t 20,.c (.bool true)]),qM 15 (.t 21),qQ 22 (.ext 0 (.t 15)),qQ 23 (.ext 1 (.t 15)),qQ 24 (.ext 2 (.t 15)),qQ 7 (.alloc [.int .i64 0,.bool false,.int .i64 0,.int .u32 0,.int .u32 0,.int .u64 0,.int .u64 0,.int .u64 0]),qM 6 (.t 22),qR (.store 8 (.t 7) (.t 23)),qM 8 (.t 24)]) (.seq (.seq (.reg [qM 25 (.t 8),qQ 26 (.bin .neq (.t 25) (.c (.int .i64 0)))]) (.cond (.t 26) (.seq (.reg [qM 27 (.t 8),qQ 28 (.build [.int .i64 0,.nils] [(0,1,.t 27)]),qR (.store 2 (.t 4) (.t 28))]) .ret) .skip)) (.seq (.reg [qM 29 (.t 0),qM 30 (.t 6),qQ 31 (.load 8 true (.t 7)),qQ 32 (.call 136 [.t 29,.t 30,.t 31])]) (.seq (.reg [qQ 33 (.build [.int .i64 0,.nils] []),qR (.store 2 (.t 4) (.t 33))]) .ret)))))
theorem z9a : FnIs Tryz.prog 82 34 z4e [.cell 4 2 true] := ⟨Tryz.f82, _, Tryz.func82, rfl, rfl, by kernel_rfl, by kernel_rfl⟩

def z4f : CC := .seq (.reg [qQ 3 (.box 3 (.t 1)),qQ 4 (.alloc [.int .i64 0,.nils])]) (.seq (.reg [qM 5 (.t 0),qQ 6 (.call 138 [.t 5]),qQ 7 (.build [.int .i64 0,.nils] [(0,1,.t 6)]),qR (.store 2 (.t 4) (.t 7))]) .ret)
theorem z9b : FnIs Tryz.prog 83 8 z4f [.cell 4 2 true] := ⟨Tryz.f83, _, Tryz.func83, rfl, rfl, by kernel_rfl, by kernel_rfl⟩

def z24 : CC := .seq (.reg [qM 4 (.c (.int .i64 0))]) (.seq (.seq (.reg [qM 6 (.t 0),qQ 7 (.len (.t 6)),qM 8 (.c (.int .i64 0))]) (.block 0 (.loop (.seq (.reg [qQ 9 (.bin .lss (.t 8) (.t 7))]) (.seq (.cond (.t 9) .skip (.exit 0)) (.seq (.block 1 (.seq (.reg [qM 10 (.t 8),qM 5 (.t 10)]) (.seq (.reg [qM 11 (.t 1),qM 12 (.t 0),qM 13 (.t 5),qQ 14 (.iaddr 1 (.t 12) (.t 13)),qQ 15 (.load 1 false (.t 14)),qQ 16 (.bin .eql (.t 11) (.t 15))]) (.cond (.t 16) (.seq (.reg [qM 17 (.t 5),qM 4 (.t 17)]) .ret) .skip)))) (.reg [qQ 18 (.bin .add (.t 8) (.c (.int .i64 1))),qM 8 (.t 18)]))))))) (.seq (.reg [qM 4 (.c (.int .i64 (-1)))]) .ret))
theorem z3c : FnIs Tryz.prog 189 19 z24 [.t 4] := ⟨Tryz.f189, _, Tryz.func189, rfl, rfl, by kernel_rfl, by kernel_rfl⟩

def z36 : CC := .seq (.reg [qM 4 (.c .nili)]) (.seq (.reg [qM 6 (.t 0),qQ 7 (.raw (Ex.inv "Len" (.t 6) [])),qQ 8 (.bin .sub (.t 7) (.c (.int .i64 1))),qM 5 (.t 8)]) (.seq (.seq (.reg [qM 9 (.t 5),qM 10 (.t 1),qQ 11 (.bin .neq (.t 9) (.t 10))]) (.cond (.t 11) (.seq (.reg [qM 12 (.t 0),qM 13 (.t 1),qM 14 (.t 5),qQ 15 (.raw (Ex.inv "Swap" (.t 12) [.t 13,.t 14]))]) (.seq (.reg [qM 16 (.t 0),qM 17 (.t 1),qM 18 (.t 5),qQ 19 (.call 249 [.t 16,.t 17,.t 18]),qQ 20 (.not (.t 19))]) (.cond (.t 20) (.reg [qM 21 (.t 0),qM 22 (.t 1),qQ 23 (.call 191 [.t 21,.t 22])]) .skip))) .skip)) (.seq (.reg [qM 24 (.t 0),qQ 25 (.raw (Ex.inv "Pop" (.t 24) [])),qM 4 (.t 25)]) .ret)))
theorem z6j : FnIs Tryz.prog 190 26 z36 [.t 4] := ⟨Tryz.f190, _, Tryz.func190, rfl, rfl, by kernel_rfl, by kernel_rfl⟩

def z4g : CC := .block 0 (.loop (.block 1 (.seq (.reg [qM 5 (.t 1),qQ 6 (.bin .sub (.t 5) (.c (.int .i64 1))),qQ 7 (.bin .quo (.t 6) (.c (.int .i64 2))),qM 4 (.t 7)]) (.seq (.seq (.reg [qM 8 (.t 4),qM 9 (.t 1),qQ 10 (.bin .eql (.t 8) (.t 9)),qM 11 (.t 10),qG 12 (.mov (.t 0)) 11 false,qG 13 (.mov (.t 1)) 11 false,qG 14 (.mov (.t 4)) 11 false,qG 15 (.raw (Ex.inv "Less" (.t 12) [.t 13,.t 14])) 11 false,qG 16 (.not (.t 15)) 11 false,qQ 17 (.pick (.t 11) (.c (.bool true)) (.t 16))]) (.cond (.t 17) (.exit 0) .skip)) (.seq (.reg [qM 18 (.t 0),qM 19 (.t 4),qM 20 (.t 1),qQ 21 (.raw (Ex.inv "Swap" (.t 18) [.t 19,.t 20]))]) (.reg [qM 22 (.t 4),qM 1 (.t 22)]))))))
theorem z9c : FnIs Tryz.prog 191 23 z4g [] := ⟨Tryz.f191, _, Tryz.func191, rfl, rfl, by kernel_rfl, by kernel_rfl⟩

def z46 : CC := .seq (.reg [qM 2 (.c (.int .i64 0))]) (.seq (.dreg [qM 4 (.t 0),qQ 5 (.nilck (.t 4)),qQ 6 (.faddr 0 (.t 5)),qQ 7 (.load 1 false (.t 6)),qM 8 (.t 0),qQ 9 (.nilck (.t 8)),qQ 10 (.faddr 1 (.t 9)),qQ 11 (.load 1 false (.t 10)),qM 12 (.t 0),qQ 13 (.nilck (.t 12)),qQ 14 (.faddr 2 (.t 13)),qQ 15 (.load 1 false (.t 14)),qQ 16 (.call 205 [.t 7,.t 11,.t 15]),qM 3 (.t 16)] [[],[0],[1],[2],[],[4],[5],[6],[],[8],[9],[10],[3,7,11],[12,12,0,1,2,3,4,5,6,7,8,9,10,11,12]]) (.seq (.seq (.reg [qM 17 (.t 3),qQ 18 (.bin .eql (.t 17) (.c (.int .i64 0)))]) (.cond (.t 18) (.reg [qM 19 (.t 0),qM 20 (.t 0),qQ 21 (.nilck (.t 20)),qQ 22 (.faddr 2 (.t 21)),qQ 23 (.load 1 false (.t 22)),qQ 24 (.call 76 [.t 23]),qQ 25 (.nilck (.t 19)),qQ 26 (.faddr 3 (.t 25)),qR (.store 1 (.t 26) (.t 24))]) .skip)) (.seq (.reg [qM 27 (.t 3),qM 2 (.t 27)]) .ret)))
theorem z8h : FnIs Tryz.prog 138 28 z46 [.t 2] := ⟨Tryz.f138, _, Tryz.func138, rfl, rfl, by kernel_rfl, by kernel_rfl⟩

def z9x : CC := .seq (.reg [qM 2 (.c (.bool false))]) (.seq (.reg [qM 3 (.t 0),qQ 4 (.bin .geq (.t 3) (.c (.int .i64 0))),qM 5 (.t 4),qG 6 (.mov (.t 0)) 5 true,qG 7 (.bin .lss (.t 6) (.c (.int .i64 32))) 5 true,qQ 8 (.pick (.t 5) (.t 7) (.c (.bool false))),qM 2 (.t 8)]) .ret)
theorem zh8 : FnIs Tryz.prog 130 9 z9x [.t 2] := ⟨Tryz.f130, _, Tryz.func130, rfl, rfl, by kernel_rfl, by kernel_rfl⟩

def z56 : CC := .seq (.reg [qQ 3 (.box 1 (.t 1)),qM 4 (.c (.int .i64 0))]) (.seq (.reg [qM 5 (.t 0),qQ 6 (.nilck (.t 5)),qQ 7 (.faddr 2 (.t 6)),qQ 8 (.load 1 false (.t 7)),qQ 9 (.mkf (.func 195) [] [.t 3]),qQ 10 (.call 194 [.t 8,.t 9]),qM 4 (.t 10)]) .ret)
theorem za8 : FnIs Tryz.prog 131 11 z56 [.t 4] := ⟨Tryz.f131, _, Tryz.func131, rfl, rfl, by kernel_rfl, by kernel_rfl⟩

def z4h : CC := .seq (.reg [qM 4 (.c .nils),qM 5 (.c (.int .i64 0))]) (.seq (.reg [qM 10 (.t 0),qQ 11 (.nilck (.t 10)),qQ 12 (.faddr 2 (.t 11)),qQ 13 (.load 1 false (.t 12)),qM 14 (.t 1),qQ 15 (.iaddr 8 (.t 13) (.t 14)),qQ 16 (.load 8 true (.t 15)),qQ 6 (.alloc [.int .i64 0,.bool false,.int .i64 0,.int .u32 0,.int .u32 0,.int .u64 0,.int .u64 0,.int .u64 0]),qR (.store 8 (.t 6) (.t 16))]) (.seq (.seq (.reg [qQ 17 (.faddr 0 (.t 6)),qQ 18 (.load 1 false (.t 17)),qQ 19 (.bin .eql (.t 18) (.c (.int .i64 2)))]) (.cond (.t 19) (.seq (.reg [qQ 20 (.mksl 1 [.int .u8 0] 1 (.c (.int .i64 32)) (.c (.int .i64 32))),qM 4 (.t 20),qM 5 (.c (.int .i64 0))]) .ret) .skip)) (.seq (.dreg [qM 22 (.t 0),qQ 23 (.nilck (.t 22)),qQ 24 (.faddr 0 (.t 23)),qQ 25 (.load 1 false (.t 24)),qQ 26 (.nilck (.t 25)),qQ 27 (.faddr 2 (.t 26)),qQ 28 (.load 1 false (.t 27)),qM 29 (.t 0),qQ 30 (.nilck (.t 29)),qQ 31 (.faddr 0 (.t 30)),qQ 32 (.load 1 false (.t 31)),qQ 33 (.nilck (.t 32)),qQ 34 (.faddr 0 (.t 33)),qQ 35 (.load 1 true (.t 34)),qM 36 (.t 1),qQ 37 (.call 196 [.t 35,.t 36]),qQ 38 (.call 182 [.t 28,.t 37,.c (.int .i64 32)]),qM 21 (.t 38),qQ 39 (.ext 0 (.t 21)),qQ 40 (.ext 1 (.t 21)),qM 7 (.t 39),qM 8 (.t 40)] [[],[0],[1],[2],[3],[4],[5],[],[7],[8],[9],[10],[11],[12],[],[13,14],[6,15,15],[16],[17],[17],[18,16,0,1,2,3,4,5,6,7,8,9,10,11,12,13,14,15,16,17,18],[19,20,0,1,2,3,4,5,6,7,8,9,10,11,12,13,14,15,16,17,18,19,20]]) (.seq (.seq (.reg [qM 41 (.t 8),qQ 42 (.not (.t 41))]) (.cond (.t 42) (.seq (.reg [qM 4 (.c .nils),qM 5 (.c (.int .i64 7))]) .ret) .skip)) (.seq (.dreg [qM 44 (.t 0),qQ 45 (.nilck (.t 44)),qQ 46 (.faddr 0 (.t 45)),qQ 47 (.load 1 false (.t 46)),qQ 48 (.nilck (.t 47)),qQ 49 (.faddr 5 (.t 48)),qQ 50 (.load 1 false (.t 49)),qQ 51 (.faddr 3 (.t 6)),qQ 52 (.faddr 0 (.t 51)),qQ 53 (.load 1 false (.t 52)),qQ 54 (.call 58 [.t 50,.t 53]),qM 43 (.t 54),qQ 55 (.ext 0 (.t 43)),qQ 56 (.ext 1 (.t 43)),qQ 9 (.alloc [.int .u64 0,.int .u64 0]),qR (.store 2 (.t 9) (.t 55)),qM 8 (.t 56)] [[],[0],[1],[2],[3],[4],[5],[],[7],[8],[6,9],[10],[11],[11],[],[14,12,10,0,1,2,3,4,5,6,7,8,9,10,11,12,14],[13,15,0,1,2,3,4,5,6,7,8,9,10,11,12,13,14,15]]) (.seq (.seq (.reg [qM 57 (.t 8)]) (.cond (.t 57) (.dreg [qM 59 (.t 0),qQ 60 (.nilck (.t 59)),qQ 61 (.faddr 0 (.t 60)),qQ 62 (.load 1 false (.t 61)),qQ 63 (.nilck (.t 62)),qQ 64 (.faddr 6 (.t 63)),qQ 65 (.load 1 false (.t 64)),qQ 66 (.load 2 true (.t 9)),qQ 67 (.faddr 3 (.t 6)),qQ 68 (.load 3 true (.t 67)),qQ 69 (.faddr 2 (.t 6)),qQ 70 (.load 1 false (.t 69)),qQ 71 (.call 198 [.t 70]),qM 72 (.t 7),qQ 73 (.faddr 6 (.t 6)),qQ 74 (.load 2 true (.t 73)),qQ 75 (.build [.nils,.int .u64 0,.int .u64 0] [(0,1,.t 72),(1,2,.t 74)]),qQ 76 (.call 197 [.t 65,.t 66,.t 68,.t 71,.t 75]),qM 58 (.t 76),qQ 77 (.ext 0 (.t 58)),qQ 78 (.ext 1 (.t 58)),qM 7 (.t 77),qM 8 (.t 78)] [[],[0],[1],[2],[3],[4],[5],[],[],[8],[],[10],[11],[],[],[14],[13,15],[6,7,9,12,16,12],[17],[18],[18],[19,17,0,1,2,3,4,5,6,7,8,9,10,11,12,13,14,15,16,17,18,19],[20,21,0,1,2,3,4,5,6,7,8,9,10,11,12,13,14,15,16,17,18,19,20,21]]) .skip)) (.seq (.seq (.reg [qM 79 (.t 8),qQ 80 (.not (.t 79))]) (.cond (.t 80) (.seq (.reg [qM 81 (.t 0),qQ 82 (.nilck (.t 81)),qQ 83 (.faddr 5 (.t 82)),qR (.store 1 (.t 83) (.c (.bool true)))]) (.seq (.reg [qM 4 (.c .nils),qM 5 (.c (.int .i64 3))]) .ret)) .skip)) (.seq (.reg [qM 84 (.t 7),qM 4 (.t 84),qM 5 (.c (.int .i64 0))]) .ret))))))))
theorem z9d : FnIs Tryz.prog 132 85 z4h [.t 4, .t 5] := ⟨Tryz.f132, _, Tryz.func132, rfl, rfl, by kernel_rfl, by kernel_rfl⟩

def z57 : CC := .seq (.reg [qM 2 (.c (.int .i64 0))]) (.seq (.seq (.reg [qM 4 (.t 0),qQ 5 (.nilck (.t 4)),qQ 6 (.faddr 2 (.t 5)),qQ 7 (.load 1 false (.t 6)),qQ 8 (.len (.t 7)),qM 9 (.c (.int .i64 0))]) (.block 0 (.loop (.seq (.reg [qQ 10 (.bin .lss (.t 9) (.t 8))]) (.seq (.cond (.t 10) .skip (.exit 0)) (.seq (.block 1 (.seq (.reg [qM 11 (.t 9),qM 3 (.t 11)]) (.seq (.reg [qM 12 (.t 0),qM 13 (.t 3),qQ 14 (.call 88 [.t 12,.t 13])]) (.cond (.t 14) (.seq (.reg [qM 15 (.t 3),qM 2 (.t 15)]) .ret) .skip)))) (.reg [qQ 16 (.bin .add (.t 9) (.c (.int .i64 1))),qM 9 (.t 16)]))))))) (.seq (.reg [qM 2 (.c (.int .i64 (-1)))]) .ret))
theorem za9 : FnIs Tryz.prog 133 17 z57 [.t 2] := ⟨Tryz.f133, _, Tryz.func133, rfl, rfl, by kernel_rfl, by kernel_rfl⟩

def z5q : CC := .seq (.reg [qM 8 (.c (.int .i64 0)),qQ 9 (.alloc [.int .i64 0,.bool false,.int .i64 0,.int .u32 0,.int .u32 0,.int .u64 0,.int .u64 0,.int .u64 0]),qM 10 (.c (.int .i64 0))]) (.seq (.reg [qM 18 (.t 0),qQ 19 (.call 133 [.t 18]),qM 11 (.t 19)]) (.seq (.reg [qM 21 (.t 0),qQ 22 (.nilck (.t 21)),qQ 23 (.faddr 0 (.t 22)),qQ 24 (.load 1 false (.t 23)),qQ 25 (.call 199 [.t 24]),qM 20 (.t 25),qQ 26 (.ext 0 (.t 20)),qQ 27 (.ext 1 (.t 20)),qQ 13 (.alloc [.int .u64 0,.int .u64 0]),qM 12 (.t 26),qR (.store 2 (.t 13) (.t 27))]) (.seq (.reg [qM 29 (.t 0),qQ 30 (.nilck (.t 29)),qQ 31 (.faddr 1 (.t 30)),qQ 32 (.load 1 false (.t 31)),qM 33 (.t 12),qM 34 (.t 11),qQ 35 (.call 200 [.t 32,.t 33,.t 34]),qM 28 (.t 35),qQ 36 (.ext 0 (.t 28)),qQ 37 (.ext 1 (.t 28)),qQ 14 (.alloc [.int .u32 0,.int .u32 0,.int .u64 0]),qR (.store 3 (.t 14) (.t 36)),qM 15 (.t 37)]) (.seq (.seq (.reg [qM 38 (.t 15),qQ 39 (.bin .neq (.t 38) (.c (.int .i64 0)))]) (.cond (.t 39) (.seq (.reg [qQ 40 (.build [.int .i64 0,.bool false,.int .i64 0,.int .u32 0,.int .u32 0,.int .u64 0,.int .u64 0,.int .u64 0] []),qM 41 (.t 15),qM 8 (.c (.int .i64 (-1))),qR (.store 8 (.t 9) (.t 40)),qM 10 (.t 41)]) .ret) .skip)) (.seq (.dreg [qM 43 (.t 0),qQ 44 (.nilck (.t 43)),qQ 45 (.faddr 0 (.t 44)),qQ 46 (.load 1 false (.t 45)),qQ 47 (.nilck (.t 46)),qQ 48 (.faddr 6 (.t 47)),qQ 49 (.load 1 false (.t 48)),qQ 50 (.load 2 true (.t 13)),qQ 51 (.load 3 true (.t 14)),qM 52 (.t 1),qQ 53 (.call 198 [.t 52]),qM 54 (.t 2),qQ 55 (.call 201 [.t 49,.t 50,.t 51,.t 53,.t 54]),qM 42 (.t 55),qQ 56 (.ext 0 (.t 42)),qQ 57 (.ext 1 (.t 42)),qQ 16 (.alloc [.nils,.int .u64 0,.int .u64 0]),qR (.store 3 (.t 16) (.t 56)),qM 17 (.t 57)] [[],[0],[1],[2],[3],[4],[5],[],[],[],[9],[],[6,7,8,10,11,10],[12],[13],[13],[],[16,14,12,0,1,2,3,4,5,6,7,8,9,10,11,12,13,14,16],[15,17,0,1,2,3,4,5,6,7,8,9,10,11,12,13,14,15,16,17]]) (.seq (.seq (.dreg [qM 58 (.t 0),qQ 59 (.nilck (.t 58)),qQ 60 (.faddr 0 (.t 59)),qQ 61 (.load 1 false (.t 60)),qQ 62 (.nilck (.t 61)),qQ 63 (.faddr 2 (.t 62)),qQ 64 (.load 1 false (.t 63)),qM 65 (.t 0),qQ 66 (.nilck (.t 65)),qQ 67 (.faddr 0 (.t 66)),qQ 68 (.load 1 false (.t 67)),qQ 69 (.nilck (.t 68)),qQ 70 (.faddr 0 (.t 69)),qQ 71 (.load 1 true (.t 70)),qM 72 (.t 11),qQ 73 (.call 196 [.t 71,.t 72]),qQ 74 (.faddr 0 (.t 16)),qQ 75 (.load 1 false (.t 74)),qQ 76 (.call 202 [.t 64,.t 73,.t 75]),qQ 77 (.not (.t 76))] [[],[0],[1],[2],[3],[4],[5],[],[7],[8],[9],[10],[11],[12],[],[13,14],[],[16],[6,15,17,15],[18]]) (.cond (.t 77) (.seq (.reg [qQ 78 (.build [.int .i64 0,.bool false,.int .i64 0,.int .u32 0,.int .u32 0,.int .u64 0,.int .u64 0,.int .u64 0] []),qM 8 (.c (.int .i64 (-1))),qR (.store 8 (.t 9) (.t 78)),qM 10 (.c (.int .i64 7))]) .ret) .skip)) (.seq (.dreg [qM 79 (.t 11),qM 80 (.t 3),qM 81 (.t 1),qQ 82 (.load 3 true (.t 14)),qQ 83 (.faddr 1 (.t 16)),qQ 84 (.load 2 true (.t 83)),qQ 85 (.build [.int .i64 0,.bool false,.int .i64 0,.int .u32 0,.int .u32 0,.int .u64 0,.int .u64 0,.int .u64 0] [(0,1,.c (.int .i64 1)),(1,1,.t 80),(2,1,.t 81),(3,3,.t 82),(6,2,.t 84)]),qM 8 (.t 79),qR (.store 8 (.t 9) (.t 85)),qM 10 (.c (.int .i64 0))] [[],[],[],[],[],[4],[1,2,3,5],[0,0],[6,7,0,1,2,3,4,5,6,7],[8,0,1,2,3,4,5,6,7,8]]) .ret)))))))
theorem zbr : FnIs Tryz.prog 135 86 z5q [.t 8, .cell 9 8 true, .t 10] := ⟨Tryz.f135, _, Tryz.func135, rfl, rfl, by kernel_rfl, by kernel_rfl⟩

def z58 : CC := .seq (.reg [qQ 5 (.box 8 (.t 2))]) (.seq (.reg [qM 7 (.t 0),qQ 8 (.faddr 2 (.t 5)),qQ 9 (.load 1 false (.t 8)),qQ 10 (.call 131 [.t 7,.t 9]),qM 6 (.t 10)]) (.seq (.dreg [qM 11 (.t 0),qQ 12 (.nilck (.t 11)),qQ 13 (.faddr 2 (.t 12)),qQ 14 (.load 1 false (.t 13)),qM 15 (.t 1),qQ 16 (.load 8 true (.t 5)),qQ 17 (.iaddr 8 (.t 14) (.t 15)),qR (.store 8 (.t 17) (.t 16))] [[],[0],[1],[2],[],[],[3,4,0,1,2,3,4,5],[6,5,0,1,2,3,4,5]]) (.seq (.reg [qM 18 (.t 0),qQ 19 (.nilck (.t 18)),qQ 20 (.faddr 4 (.t 19)),qQ 21 (.load 1 false (.t 20)),qM 22 (.t 1),qQ 23 (.call 78 [.t 21,.t 22])]) (.seq (.reg [qM 24 (.t 6),qQ 25 (.bin .geq (.t 24) (.c (.int .i64 0)))]) (.cond (.t 25) (.reg [qM 26 (.t 0),qM 27 (.t 6),qQ 28 (.call 203 [.t 26,.t 27])]) .skip)))))
theorem zaa : FnIs Tryz.prog 136 29 z58 [] := ⟨Tryz.f136, _, Tryz.func136, rfl, rfl, by kernel_rfl, by kernel_rfl⟩

def z59 : CC := .seq (.reg [qM 2 (.c (.int .i64 0))]) (.seq (.seq (.reg [qM 4 (.t 0),qQ 5 (.call 133 [.t 4]),qQ 6 (.bin .geq (.t 5) (.c (.int .i64 0)))]) (.cond (.t 6) (.seq (.reg [qM 2 (.c (.int .i64 0))]) .ret) .skip)) (.seq (.seq (.reg [qM 7 (.t 0),qQ 8 (.call 138 [.t 7]),qM 3 (.t 8)]) (.seq (.reg [qM 9 (.t 3),qQ 10 (.bin .neq (.t 9) (.c (.int .i64 0)))]) (.cond (.t 10) (.seq (.reg [qM 11 (.t 3),qM 2 (.t 11)]) .ret) .skip))) (.seq (.seq (.reg [qM 12 (.t 0),qQ 13 (.call 133 [.t 12]),qQ 14 (.bin .geq (.t 13) (.c (.int .i64 0)))]) (.cond (.t 14) (.seq (.reg [qM 2 (.c (.int .i64 0))]) .ret) .skip)) (.seq (.reg [qM 15 (.t 0),qQ 16 (.call 204 [.t 15]),qM 2 (.t 16)]) .ret))))
theorem zab : FnIs Tryz.prog 137 17 z59 [.t 2] := ⟨Tryz.f137, _, Tryz.func137, rfl, rfl, by kernel_rfl, by kernel_rfl⟩

def z3q : CC := .seq (.reg [qM 6 (.c (.bool false))]) (.seq (.reg [qM 11 (.t 1),qM 7 (.t 11)]) (.seq (.block 0 (.loop (.block 1 (.seq (.reg [qM 12 (.t 7),qQ 13 (.bin .mul (.c (.int .i64 2)) (.t 12)),qQ 14 (.bin .add (.t 13) (.c (.int .i64 1))),qM 8 (.t 14)]) (.seq (.seq (.reg [qM 15 (.t 8),qM 16 (.t 2),qQ 17 (.bin .geq (.t 15) (.t 16)),qM 18 (.t 17),qG 19 (.mov (.t 8)) 18 false,qG 20 (.bin .lss (.t 19) (.c (.int .i64 0))) 18 false,qQ 21 (.pick (.t 18) (.c (.bool true)) (.t 20))]) (.cond (.t 21) (.exit 0) .skip)) (.seq (.reg [qM 22 (.t 8),qM 9 (.t 22)]) (.seq (.seq (.reg [qM 23 (.t 8),qQ 24 (.bin .add (.t 23) (.c (.int .i64 1))),qM 10 (.t 24)]) (.seq (.reg [qM 25 (.t 10),qM 26 (.t 2),qQ 27 (.bin .lss (.t 25) (.t 26)),qM 28 (.t 27),qG 29 (.mov (.t 0)) 28 true,qG 30 (.mov (.t 10)) 28 true,qG 31 (.mov (.t 8)) 28 true,qG 32 (.raw (Ex.inv "Less" (.t 29) [.t 30,.t 31])) 28 true,qQ 33 (.pick (.t 28) (.t 32) (.c (.bool false)))]) (.cond (.t 33) (.reg [qM 34 (.t 10),qM 9 (.t 34)]) .skip))) (.seq (.seq (.reg [qM 35 (.t 0),qM 36 (.t 9),qM 37 (.t 7),qQ 38 (.raw (Ex.inv "Less" (.t 35) [.t 36,.t 37])),qQ 39 (.not (.t 38))]) (.cond (.t 39) (.exit 0) .skip)) (.seq (.reg [qM 40 (.t 0),qM 41 (.t 7),qM 42 (.t 9),qQ 43 (.raw (Ex.inv "Swap" (.t 40) [.t 41,.t 42]))]) (.reg [qM 44 (.t 9),qM 7 (.t 44)])))))))))) (.seq (.reg [qM 45 (.t 7),qM 46 (.t 1),qQ 47 (.bin .gtr (.t 45) (.t 46)),qM 6 (.t 47)]) .ret)))
theorem z7m : FnIs Tryz.prog 249 48 z3q [.t 6] := ⟨Tryz.f249, _, Tryz.func249, rfl, rfl, by kernel_rfl, by kernel_rfl⟩

def z1i : CC := .seq (.reg [qM 4 (.c (.int .i64 0))]) (.seq (.seq (.reg [qM 6 (.t 0),qQ 7 (.len (.t 6)),qM 8 (.c (.int .i64 0))]) (.block 0 (.loop (.seq (.reg [qQ 9 (.bin .lss (.t 8) (.t 7))]) (.seq (.cond (.t 9) .skip (.exit 0)) (.seq (.block 1 (.seq (.reg [qM 10 (.t 8),qM 5 (.t 10)]) (.seq (.reg [qM 11 (.t 1),qM 12 (.t 0),qM 13 (.t 5),qQ 14 (.iaddr 8 (.t 12) (.t 13)),qQ 15 (.load 8 true (.t 14)),qQ 16 (.callv (.t 11) [.t 15])]) (.cond (.t 16) (.seq (.reg [qM 17 (.t 5),qM 4 (.t 17)]) .ret) .skip)))) (.reg [qQ 18 (.bin .add (.t 8) (.c (.int .i64 1))),qM 8 (.t 18)]))))))) (.seq (.reg [qM 4 (.c (.int .i64 (-1)))]) .ret))
theorem z2w : FnIs Tryz.prog 194 19 z1i [.t 4] := ⟨Tryz.f194, _, Tryz.func194, rfl, rfl, by kernel_rfl, by kernel_rfl⟩

def z47 : CC := .seq (.reg [qQ 2 (.box 8 (.t 0)),qM 3 (.c (.bool false))]) (.seq (.reg [qQ 4 (.faddr 0 (.t 2)),qQ 5 (.load 1 false (.t 4)),qQ 6 (.bin .neq (.t 5) (.c (.int .i64 0))),qM 7 (.t 6),qG 8 (.faddr 2 (.t 2)) 7 true,qG 9 (.load 1 false (.t 8)) 7 true,qG 10 (.load 1 false (.t 1)) 7 true,qG 11 (.bin .eql (.t 9) (.t 10)) 7 true,qQ 12 (.pick (.t 7) (.t 11) (.c (.bool false))),qM 3 (.t 12)]) .ret)
theorem z8i : FnIs Tryz.prog 195 13 z47 [.t 3] := ⟨Tryz.f195, _, Tryz.func195, rfl, rfl, by kernel_rfl, by kernel_rfl⟩

def z6k : CC := .seq (.reg [qQ 2 (.box 1 (.t 0)),qM 4 (.c (.int .i64 0))]) (.seq (.seq (.reg [qQ 5 (.load 1 true (.t 2)),qM 6 (.t 1),qQ 7 (.faddr 0 (.t 2)),qQ 8 (.load 1 false (.t 7)),qQ 9 (.call 180 [.t 5,.t 6,.t 8]),qQ 10 (.not (.t 9))]) (.cond (.t 10) (.seq (.reg [qM 4 (.c (.int .i64 (-1)))]) .ret) .skip)) (.seq (.reg [qM 11 (.t 1),qQ 12 (.bin .mul (.t 11) (.c (.int .i64 32))),qM 4 (.t 12)]) .ret))
theorem zcn : FnIs Tryz.prog 196 13 z6k [.t 4] := ⟨Tryz.f196, _, Tryz.func196, rfl, rfl, by kernel_rfl, by kernel_rfl⟩

def zbs : CC := .seq (.reg [qM 2 (.c .nils)]) (.seq (.reg [qM 3 (.t 0),qQ 4 (.conv .u64 (.t 3)),qQ 5 (.call 173 [.t 4,.c (.int .i64 2)]),qM 2 (.t 5)]) .ret)
theorem zjp : FnIs Tryz.prog 198 6 zbs [.t 2] := ⟨Tryz.f198, _, Tryz.func198, rfl, rfl, by kernel_rfl, by kernel_rfl⟩

def z48 : CC := .seq (.reg [qM 4 (.c (.bool false))]) (.seq (.reg [qM 5 (.t 0),qQ 6 (.nilck (.t 5)),qQ 7 (.faddr 2 (.t 6)),qQ 8 (.load 1 false (.t 7)),qM 9 (.t 1),qQ 10 (.iaddr 8 (.t 8) (.t 9)),qQ 11 (.faddr 0 (.t 10)),qQ 12 (.load 1 false (.t 11)),qQ 13 (.bin .eql (.t 12) (.c (.int .i64 0))),qM 14 (.t 13),qG 15 (.mov (.t 0)) 14 true,qG 16 (.nilck (.t 15)) 14 true,qG 17 (.faddr 3 (.t 16)) 14 true,qG 18 (.load 1 false (.t 17)) 14 true,qG 19 (.mov (.t 1)) 14 true,qG 20 (.iaddr 8 (.t 18) (.t 19)) 14 true,qG 21 (.faddr 0 (.t 20)) 14 true,qG 22 (.load 1 false (.t 21)) 14 true,qG 23 (.bin .eql (.t 22) (.c (.int .i64 0))) 14 true,qQ 24 (.pick (.t 14) (.t 23) (.c (.bool false))),qM 4 (.t 24)]) .ret)
theorem z8j : FnIs Tryz.prog 88 25 z48 [.t 4] := ⟨Tryz.f88, _, Tryz.func88, rfl, rfl, by kernel_rfl, by kernel_rfl⟩

def z4i : CC := .seq (.reg [qM 4 (.t 0),qQ 5 (.nilck (.t 4)),qQ 6 (.faddr 2 (.t 5)),qQ 7 (.load 1 false (.t 6)),qM 8 (.t 1),qQ 9 (.build [.int .i64 0,.bool false,.int .i64 0,.int .u32 0,.int .u32 0,.int .u64 0,.int .u64 0,.int .u64 0] []),qQ 10 (.iaddr 8 (.t 7) (.t 8)),qR (.store 8 (.t 10) (.t 9))]) (.reg [qM 11 (.t 0),qQ 12 (.nilck (.t 11)),qQ 13 (.faddr 4 (.t 12)),qQ 14 (.load 1 false (.t 13)),qM 15 (.t 1),qQ 16 (.call 126 [.t 14,.t 15])])
theorem z9e : FnIs Tryz.prog 203 17 z4i [] := ⟨Tryz.f203, _, Tryz.func203, rfl, rfl, by kernel_rfl, by kernel_rfl⟩

def z79 : CC := .seq (.reg [qM 2 (.c (.int .i64 0))]) (.seq (.reg [qM 3 (.t 0),qQ 4 (.nilck (.t 3)),qQ 5 (.faddr 0 (.t 4)),qQ 6 (.load 1 false (.t 5)),qQ 7 (.len (.t 6)),qM 2 (.t 7)]) .ret)
theorem zed : FnIs Tryz.prog 296 8 z79 [.t 2] := ⟨Tryz.f296, _, Tryz.func296, rfl, rfl, by kernel_rfl, by kernel_rfl⟩

def z6l : CC := .seq (.reg [qM 6 (.c (.bool false))]) (.seq (.dreg [qM 7 (.t 0),qQ 8 (.nilck (.t 7)),qQ 9 (.faddr 1 (.t 8)),qQ 10 (.load 1 false (.t 9)),qM 11 (.t 0),qQ 12 (.nilck (.t 11)),qQ 13 (.faddr 0 (.t 12)),qQ 14 (.load 1 false (.t 13)),qM 15 (.t 1),qQ 16 (.iaddr 1 (.t 14) (.t 15)),qQ 17 (.load 1 false (.t 16)),qM 18 (.t 0),qQ 19 (.nilck (.t 18)),qQ 20 (.faddr 0 (.t 19)),qQ 21 (.load 1 false (.t 20)),qM 22 (.t 2),qQ 23 (.iaddr 1 (.t 21) (.t 22)),qQ 24 (.load 1 false (.t 23)),qQ 25 (.callv (.t 10) [.t 17,.t 24]),qM 6 (.t 25)] [[],[0],[1],[2],[],[4],[5],[6],[],[7,8],[9],[],[11],[12],[13],[],[14,15],[16],[3,10,17],[18,18,0,1,2,3,4,5,6,7,8,9,10,11,12,13,14,15,16,17,18]]) .ret)
theorem zco : FnIs Tryz.prog 329 26 z6l [.t 6] := ⟨Tryz.f329, _, Tryz.func329, rfl, rfl, by kernel_rfl, by kernel_rfl⟩

def z7a : CC := .seq (.reg [qM 2 (.c .nili)]) (.seq (.reg [qM 5 (.t 0),qQ 6 (.nilck (.t 5)),qQ 7 (.faddr 0 (.t 6)),qQ 8 (.load 1 false (.t 7)),qQ 9 (.len (.t 8)),qQ 10 (.bin .sub (.t 9) (.c (.int .i64 1))),qM 3 (.t 10)]) (.seq (.reg [qM 11 (.t 0),qQ 12 (.nilck (.t 11)),qQ 13 (.faddr 0 (.t 12)),qQ 14 (.load 1 false (.t 13)),qM 15 (.t 3),qQ 16 (.iaddr 1 (.t 14) (.t 15)),qQ 17 (.load 1 false (.t 16)),qM 4 (.t 17)]) (.seq (.reg [qM 18 (.t 0),qM 19 (.t 0),qQ 20 (.nilck (.t 19)),qQ 21 (.faddr 0 (.t 20)),qQ 22 (.load 1 false (.t 21)),qM 23 (.t 3),qQ 24 (.slc 1 (.t 22) none (some (.t 23))),qQ 25 (.nilck (.t 18)),qQ 26 (.faddr 0 (.t 25)),qR (.store 1 (.t 26) (.t 24))]) (.seq (.reg [qM 27 (.t 4),qQ 28 (.raw (Ex.mkif 3 (.t 27))),qM 2 (.t 28)]) .ret))))
theorem zee : FnIs Tryz.prog 330 29 z7a [.t 2] := ⟨Tryz.f330, _, Tryz.func330, rfl, rfl, by kernel_rfl, by kernel_rfl⟩

def z6m : CC := .seq (.reg [qM 7 (.t 1),qQ 8 (.raw (Ex.asrt 3 true (.int .i64 0) (.t 7))),qM 6 (.t 8),qQ 9 (.ext 0 (.t 6)),qQ 10 (.ext 1 (.t 6)),qM 4 (.t 9),qM 5 (.t 10)]) (.reg [qM 11 (.t 0),qM 12 (.t 0),qQ 13 (.nilck (.t 12)),qQ 14 (.faddr 0 (.t 13)),qQ 15 (.load 1 false (.t 14)),qM 16 (.t 4),qQ 17 (.bsl 1 [.t 16]),qQ 18 (.app 1 8 (.t 15) (.t 17)),qQ 19 (.nilck (.t 11)),qQ 20 (.faddr 0 (.t 19)),qR (.store 1 (.t 20) (.t 18))])
theorem zcp : FnIs Tryz.prog 331 21 z6m [] := ⟨Tryz.f331, _, Tryz.func331, rfl, rfl, by kernel_rfl, by kernel_rfl⟩

def z6n : CC := .dreg [qM 6 (.t 0),qQ 7 (.nilck (.t 6)),qQ 8 (.faddr 0 (.t 7)),qQ 9 (.load 1 false (.t 8)),qM 10 (.t 1),qM 11 (.t 0),qQ 12 (.nilck (.t 11)),qQ 13 (.faddr 0 (.t 12)),qQ 14 (.load 1 false (.t 13)),qM 15 (.t 2),qM 16 (.t 0),qQ 17 (.nilck (.t 16)),qQ 18 (.faddr 0 (.t 17)),qQ 19 (.load 1 false (.t 18)),qM 20 (.t 2),qQ 21 (.iaddr 1 (.t 19) (.t 20)),qQ 22 (.load 1 false (.t 21)),qM 23 (.t 0),qQ 24 (.nilck (.t 23)),qQ 25 (.faddr 0 (.t 24)),qQ 26 (.load 1 false (.t 25)),qM 27 (.t 1),qQ 28 (.iaddr 1 (.t 26) (.t 27)),qQ 29 (.load 1 false (.t 28)),qQ 30 (.iaddr 1 (.t 9) (.t 10)),qR (.store 1 (.t 30) (.t 22)),qQ 31 (.iaddr 1 (.t 14) (.t 15)),qR (.store 1 (.t 31) (.t 29))] [[],[0],[1],[2],[],[],[5],[6],[7],[],[],[10],[11],[12],[],[13,14],[15],[],[17],[18],[19],[],[20,21],[22],[3,4,0,1,2,3,4,8,10,11,12,13,14,15,16,20,23],[24,16,0,1,2,3,4,8,10,11,12,13,14,15,16,20,23],[8,9,0,1,2,3,4,5,6,7,8,9,10,11,12,13,14,15,16,17,18,19,20,21,22,23,24,25],[26,23,25,0,1,2,3,4,5,6,7,8,9,10,11,12,13,14,15,16,17,18,19,20,21,22,23,24,25]]
theorem zcq : FnIs Tryz.prog 332 32 z6n [] := ⟨Tryz.f332, _, Tryz.func332, rfl, rfl, by kernel_rfl, by kernel_rfl⟩

end Go.Proofs.YthblcmnhiccnhaaGreat


namespace Go.Abs
open Go
section
variable {P : Program} {N : Nat} {e : Env} {h : AHeap} {m : Inj} {w : World} {nm : Nat}
theorem zfu (hr : HR m h w) (hf : ¬ h.used nm) {id sz b : Nat} {c : List (List AV)} (hg : h.get id = some (.mem sz c)) (hb : m id = some (b, 0)) :
  HR (upd m nm (some (b, 0))) ((h.set id none).put nm (.mem sz c)) w ∧ Step m h w (upd m nm (some (b, 0))) ((h.set id none).put nm (.mem sz c)) w := by
 have hrd := hr.del id
 obtain ⟨b', cc, T, q1, q2, q3, q4⟩ := hr.obj _ _ hg
 rw [hb] at q1; cases q1
 have hne : id ≠ nm := z3i hf (hr.live _ _ hg)
 have sub : ∀ j y, j ≠ nm → ((h.set id none).put nm (.mem sz c)).get j = some y → h.get j = some y ∧ j ≠ id := fun j y hj hgj => by
  simp only [AHeap.put, if_neg hj, AHeap.set] at hgj
  by_cases e : j = id
  ·simp [e] at hgj
  ·rw [if_neg e] at hgj; exact ⟨hgj, e⟩
 have st : Step m h w (upd m nm (some (b, 0))) ((h.set id none).put nm (.mem sz c)) w := {
  os := rfl
  tape := rfl
  output := rfl
  size := Nat.le_refl _
  kind := fun k cc T fz hb _ => ⟨cc, hb, rfl⟩
  free := fun k hk hfr => ⟨rfl, fun j s y hgj hmj => by
   by_cases e : j = nm
   ·subst e
    simp only [upd, if_true] at hmj
    cases hmj
    exact hfr id 0 _ hg hb
   ·simp only [upd, if_neg e] at hmj; exact hfr j s y (sub j y e hgj).1 hmj⟩
  cell := fun k o v hcell hn => ⟨hcell, fun ⟨j, s, ⟨y, hgj⟩, hmj, hle⟩ => by
   by_cases e : j = nm
   ·subst e
    simp only [upd, if_true] at hmj
    cases hmj
    exact hn ⟨id, 0, ⟨_, hg⟩, hb, Nat.zero_le _⟩
   ·simp only [upd, if_neg e] at hmj; exact hn ⟨j, s, ⟨y, (sub j y e hgj).1⟩, hmj, hle⟩⟩
  used := fun _ hu => z14 (h := h.set id none) hu
  live := fun j x' huj hgj => by
   have e : j ≠ nm := z3i hf huj
   exact ⟨x', (sub j x' e hgj).1, fun _ => by simp [upd, e], Compat.refl _⟩ }
 refine ⟨⟨hrd.put_gapl, hrd.put_live, fun i j y z b2 s r hi hj hmi hmj => ?_, fun j y hgj => ?_⟩, st⟩
 ·by_cases ei : i = nm <;> by_cases ej : j = nm
  ·rw [ei, ej]
  ·subst ei
   simp only [upd, if_true] at hmi
   simp only [upd, if_neg ej] at hmj
   cases hmi
   exact absurd (hr.inj j id z _ b r 0 (sub j z ej hj).1 hg hmj hb) (sub j z ej hj).2
  ·subst ej
   simp only [upd, if_true] at hmj
   simp only [upd, if_neg ei] at hmi
   cases hmj
   exact absurd (hr.inj i id y _ b s 0 (sub i y ei hi).1 hg hmi hb) (sub i y ei hi).2
  ·simp only [upd, if_neg ei, if_neg ej] at hmi hmj
   exact hr.inj i j y z b2 s r (sub i y ei hi).1 (sub j z ej hj).1 hmi hmj
 ·by_cases e : j = nm
  ·subst e
   simp only [AHeap.put, if_true] at hgj
   cases hgj
   exact ⟨b, cc, T, by simp [upd], q2, q3, q4.step st⟩
  ·exact (hr.obj j y (sub j y e hgj).1).step st (by simp [upd, e]) fun _ _ _ => rfl
theorem zp2 (hr : HR m h w) (hf : ¬ h.used nm) {t ty el : TypeId} {i : TypeInfo} {z : Value} (hu : P.underlying t = some (.slice el)) (hi : P.info? el = some i) (hz : i.zero = some z) (hsz : 0 < i.size) (hb : 0 < i.bytes) (hzz : z.cells.size = i.size)
  {id n : Nat} {c : List (List AV)} {cs : Value} (hs : VR m h w (.ref id 0 n) cs) (hid : h.get id = some (.mem i.size c)) (hn : c.length = n) {x : AV} {cx : Value} (hx : VR m h w x cx) {d : List (List AV)} (hd : rdS h.get i.size x = some d) (hd0 : d ≠ []) (hbig : (n + d.length) * i.bytes ≤ 140737488355328) :
  ∃ m' w' cv, (Builtin.append_ #[t, t] ty #[cs, cx]).run P w = .ok cv w' ∧ HR m' ((h.set id none).put nm (.mem i.size (c ++ d))) w' ∧ Step m h w m' ((h.set id none).put nm (.mem i.size (c ++ d))) w' ∧ VR m' ((h.set id none).put nm (.mem i.size (c ++ d))) w' (.ref nm 0 (n + d.length)) cv := by
 subst hn
 obtain ⟨ad, capx, G, rfl, hcapx, hrow, h1c, hcell⟩ := z4n hr hx hd
 obtain ⟨b2, o2, rfl, hc2⟩ := hcell hd0
 have hposd : 0 < d.length := List.length_pos_iff.2 hd0
 have hn1 : (c.length + d.length) * 1 ≤ (c.length + d.length) * i.bytes := Nat.mul_le_mul_left _ hb
 have hcl : (c ++ d).length = c.length + d.length := List.length_append
 cases hs with
 | ref _ _ _ cap a hu' hc ha =>
  obtain ⟨b, hmb, hle, had, cc, T, hcc, hsz2⟩ := ha _ _ hid
  obtain ⟨b', cc', T', q1, q2, q3, q4⟩ := hr.obj _ _ hid
  rw [hmb] at q1; cases q1
  rw [q2] at hcc; cases hcc
  have hrowcd := RowF.append q4 hrow
  have sd : Step m h w m (h.set id none) w := z1o id
  have hfd : ¬ (h.set id none).used nm := hf
  -- the row in a new block
  have fresh : ∀ (base : Addr), cap < c.length + d.length → (∀ j v, ((List.range (c.length * i.size)).map (fun k => cc.getD k undef))[j]? = some v → w.cell? (base.add j) = some v) →
    ∃ m' w' cv, (Builtin.append_ #[t, t] ty #[.slice (some base) c.length cap, .slice (some ⟨b2, o2, none⟩) d.length capx]).run P w = .ok cv w' ∧ HR m' ((h.set id none).put nm (.mem i.size (c ++ d))) w' ∧ Step m h w m' ((h.set id none).put nm (.mem i.size (c ++ d))) w' ∧ VR m' ((h.set id none).put nm (.mem i.size (c ++ d))) w' (.ref nm 0 (c.length + d.length)) cv := by
   intro base hfull holds
   have hg := grownCap_ge w (c.length + d.length) cap el
   obtain ⟨r1, r2, r3⟩ := zhy (T := el) (cap := grownCap w (c.length + d.length) cap el) (cc := ((List.range (c.length * i.size)).map (fun k => cc.getD k undef)).toArray ++ ((List.range (d.length * i.size)).map G).toArray ++ Builtin.zeroCells z.cells (grownCap w (c.length + d.length) cap el - (c.length + d.length))) (hr.del id) hfd (hrowcd.step sd) (by omega)
    (by
     simp only [Array.size_append, List.size_toArray, List.length_map, List.length_range, size_zeroCells, hzz, ← Nat.add_mul]
     exact Nat.mul_le_mul_right _ (by omega))
    (fun k hk => by
     rw [hcl, Nat.add_mul] at hk
     rw [Array.getElem?_append_left (by simp; omega)]
     by_cases hk1 : k < c.length * i.size
     ·rw [if_pos hk1]; exact z2m (fun k => cc.getD k undef) _ k hk1 _
     ·rw [if_neg hk1, Array.getElem?_append_right (by simp; omega)]
      simp [List.getElem?_range (show k - c.length * i.size < d.length * i.size by omega)])
   rw [hcl] at r3
   exact ⟨_, _, _, run_append_grow (P := P) w t ty el i z hu hi hz base c.length cap ((List.range (c.length * i.size)).map (fun k => cc.getD k undef)) (by simp) holds ⟨b2, o2, none⟩ d.length capx ((List.range (d.length * i.size)).map G) (by simp) hc2 (by omega) (by omega) (growslice_fits (by omega) hbig), r1, Step.trans sd r2, r3⟩
  by_cases hc0 : cap = 0
  ·subst hc0
   have h0 : c.length = 0 := by omega
   exact fresh a (by omega) (by rw [h0]; simp)
  ·rcases had with h00 | rfl
   ·exact absurd h00 hc0
   ·have holds : ∀ j v, ((List.range (c.length * i.size)).map (fun k => cc.getD k undef))[j]? = some v → w.cell? ((⟨b, 0 * i.size, none⟩ : Addr).add j) = some v := by
     intro j v hj
     have hlt : j < c.length * i.size := by simpa using (List.getElem?_eq_some_iff.1 hj).1
     rw [List.getElem?_map, List.getElem?_range hlt] at hj
     simp only [Option.map_some, Option.some.injEq] at hj
     subst hj
     rw [Nat.zero_mul, Addr.add_lit, Nat.zero_add, cell_of_row w b j cc T (0, 0) q2]
     simp [Array.getD_eq_getD_getElem?, show j < cc.size by omega]
    by_cases hroom : c.length + d.length ≤ cap
    ·have hmul : (c.length + d.length) * i.size ≤ cap * i.size := Nat.mul_le_mul_right _ hroom
     rw [Nat.zero_add] at hsz2
     rw [Nat.add_mul] at hmul
     have hrun := z5z (P := P) (w := w) t ty el T i hu hi b c.length cap cc q2 ⟨b2, o2, none⟩ d.length capx ((List.range (d.length * i.size)).map G) (by simp) hc2 h1c hroom (by simp; omega)
     generalize hnew : (cc.toList.take (c.length * i.size) ++ (List.range (d.length * i.size)).map G ++ cc.toList.drop (c.length * i.size + ((List.range (d.length * i.size)).map G).length)).toArray = c2 at hrun
     have hsz' : c2.size = cc.size := by rw [← hnew]; simp; omega
     have wu := WUpd.setRow w b cc c2 T (0, 0) q2 hsz'
     have hget : ∀ k, k < (c ++ d).length * i.size → (if k < c.length * i.size then cc.getD k undef else G (k - c.length * i.size)) = c2.getD k undef := by
      intro k hk
      rw [hcl, Nat.add_mul] at hk
      rw [← hnew, z38 cc _ _ (by simp; omega)]
      simp only [List.length_map, List.length_range]
      by_cases hk1 : k < c.length * i.size
      ·rw [if_pos hk1, if_neg (by omega)]
      ·rw [if_neg hk1, if_pos (by omega)]
       simp [List.getD_eq_getElem?_getD, List.getElem?_map, List.getElem?_range (show k - c.length * i.size < d.length * i.size by omega)]
     have hcm : Compat (.mem i.size c) (.mem i.size (c ++ d)) := ⟨rfl, by omega⟩
     have st := z1w hr hid hmb hcm wu
     have hr2 := HR.set hr hid hmb hcm wu ⟨b, c2, T, hmb, setRow_heap w b cc c2 T (0, 0) q2, by rw [hcl, Nat.add_mul]; omega, (hrowcd.congr hget).step st⟩
     obtain ⟨r1, r2⟩ := zfu (nm := nm) hr2 (show ¬ (h.set id _).used nm from hf) (show (h.set id (some (.mem i.size (c ++ d)))).get id = some (.mem i.size (c ++ d)) by simp [AHeap.set]) hmb
     have hss : (h.set id (some (.mem i.size (c ++ d)))).set id none = h.set id none := by
      simp only [AHeap.set, AHeap.mk.injEq, and_true]
      funext j; split <;> rfl
     rw [hss] at r1 r2
     rw [Nat.zero_mul]
     refine ⟨_, _, _, hrun, r1, Step.trans st r2, .ref nm 0 _ cap _ z3 hroom fun sz c' hg => ?_⟩
     simp only [AHeap.put, if_true, Option.some.injEq, AObj.mem.injEq] at hg
     obtain ⟨rfl, rfl⟩ := hg
     exact ⟨b, by simp [upd], by omega, .inr (by simp), c2, T, setRow_heap w b cc c2 T (0, 0) q2, by rw [Nat.zero_add, hsz']; exact hsz2⟩
    ·exact fresh _ (by omega) holds
theorem FX.appR {d : Nat} {sz bytes : Nat} {x y : Opd} {g : Option (Nat × Bool)} {v : AV} {id n : Nat} {c c2 : List (List AV)} (hf : ¬ h.used nm) (hx : ev e x = some (.ref id 0 n)) (hid : h.get id = some (.mem sz c)) (hn : c.length = n) (hy : ev e y = some v) (hc : rdS h.get sz v = some c2) (hne : c2 ≠ []) (hb : (n + c2.length) * bytes ≤ 140737488355328) (hg : met e g) :
  FX P N ⟨some d, .app sz bytes x y, g⟩ e h (some (.ref nm 0 (n + c2.length))) ((h.set id none).put nm (.mem sz (c ++ c2))) := by
 intro ops j o ho hcc e2 hs m w a K Q hr he hk
 have hraw := z5r hcc rfl
 rcases zw hcc with ⟨hb1, hb2⟩ | ⟨hd, hdst, _, hgd⟩
 ·cases hb1
 ·obtain ⟨w1, w2⟩ := zo he hgd
  have hi : ∀ s ∈ z13 (.app sz bytes x y), lk s e2 = lk s e := fun s h => hs s (by unfold zt; split <;> simp [h])
  have hw : Region.wanted o (yielded ops a.tmps) = true := by
   cases g with
   | none => exact w1 rfl
   | some sb =>
    obtain ⟨s, b⟩ := sb
    have hl : lk s e2 = some (.bool b) := (hs s (by simp [zt])).trans hg
    rw [w2 s b b rfl hl]; simp
  simp only [wpOp, ho]
  rw [if_pos hw]
  left
  obtain ⟨cl, s, n', t, el, i, z, hop, hcal, hargs, hat, hu, h1, h2, hinf, hz, p1, p2, p3, rfl, rfl⟩ := zkg hraw
  have hx2 : ev e2 x = some (.ref id 0 n) := (z5 fun s h => hi s (by simp [z13, h])).trans hx
  have hy2 : ev e2 y = some v := (z5 fun s h => hi s (by simp [z13, h])).trans hy
  have ha' : cl.args = #[s, n'] := by rw [← Array.toArray_toList (xs := cl.args), hargs]
  have hat' : cl.argTypes = #[t, t] := by rw [← Array.toArray_toList (xs := cl.argTypes), hat]
  have e1 := he.eval h1 hx2
  have e3 := he.eval h2 hy2
  obtain ⟨m', w', cv, q1, q2, q3, q4⟩ := zp2 (P := P) (ty := o.type) hr hf hu hinf hz p1 p2 p3 e1 hid hn e3 hc hne hb
  have hrun : (execOp a.eval o).run P w = .ok (.value cv) w' := by simp [execOp, hop, resolve, hcal, ha', hat', invoke, builtin, q1]
  have hd' : some d = o.dst := hd
  unfold Oper.wp
  rw [hrun, Oper.upon_value]
  refine hk m' w' _ q2 ?_ q3
  show ER N m' _ w' (putR (some d) (some _) e2) _
  rw [hd']
  exact (he.step q3).putR hdst q4
end
end Go.Abs


namespace Go.Abs
open Go
section
variable {P : Program} {N : Nat} {e : Env} {h : AHeap} {m : Inj} {w : World} {nm : Nat}
theorem zuu {o : Oper} {sz : Nat} {zs : List AV} {x : Opd} (hc : z9 P N o = some (.clr sz zs x)) : ∃ c xo t el i z, o.op = .call c ∧ c.callee = .builtin .clear ∧ c.args.toList = [xo] ∧ c.argTypes[0]? = some t ∧ P.underlying t = some (.slice el) ∧ ofOpd N xo = some x ∧ P.info? el = some i ∧ i.zero = some z ∧ ofL ofV z.cells.toList = some zs ∧ sz = i.size := by
  obtain ⟨c, hop⟩ := z7w hc trivial
  simp only [z9, hop] at hc
  split at hc
  case h_4 hcal =>
    repeat' split at hc
    all_goals first
      | (cases hc; exact ⟨_, _, _, _, _, _, hop, hcal, ‹_›, ‹_›, ‹_›, ‹_›, ‹_›, ‹_›, ‹_›, rfl⟩)
      | (cases hc; done)
  all_goals
    (repeat' split at hc
     all_goals (cases hc; done))
theorem XOK.clr {sz : Nat} {zs : List AV} {x : Opd} {id off n : Nat} {c : List (List AV)} (hx : ev e x = some (.ref id off n)) (hg : h.get id = some (.mem sz c)) (hz : zs.length = sz) (h0 : 0 < sz) : XOK P N (.clr sz zs x) e h (some (.tup [])) (.set id (.mem sz (c.take off ++ List.replicate n zs ++ c.drop (off + n)))) := by
 intro o hc e2 hs m w act hr he
 obtain ⟨cl, xo, t, el, i, z, hop, hcal, ha, hat, hu, h1, hinf, hzz, hzs, rfl⟩ := zuu hc
 have hx2 : ev e2 x = some (.ref id off n) := (z5 fun s h => hs s (by simp [zp, h])).trans hx
 have ha' : cl.args = #[xo] := by rw [← Array.toArray_toList (xs := cl.args), ha]
 have e1 := he.eval h1 hx2
 generalize hcx : act.eval xo = cx at e1
 obtain ⟨q1, q2, q3⟩ := z4l (m := m) (h := h) (w := w) hzs
 have hsz : z.cells.size = i.size := by rw [← hz]; simpa using q1.symm
 cases e1 with
 | ref _ _ _ cap a hu' hcp hra =>
  obtain ⟨b, hmb, hle, had, cc, T, hcc, hsz2⟩ := hra _ _ hg
  obtain ⟨b', cc', T', p1, p2, p3, p4⟩ := hr.obj _ _ hg
  rw [hmb] at p1; cases p1
  rw [p2] at hcc; cases hcc
  have hcl : (c.take off ++ List.replicate n zs ++ c.drop (off + n)).length = c.length := by simp; omega
  rcases Nat.eq_zero_or_pos n with hn0 | hn0
  ·subst hn0
   have hcc2 : c.take off ++ List.replicate 0 zs ++ c.drop (off + 0) = c := by simp
   rw [hcc2]
   refine ⟨m, w, by show HR m (h.set id _) w; rw [z8m hg]; exact hr, by show Step m h w m (h.set id _) w; rw [z8m hg]; exact Step.refl _ _ _, .tuple #[], ?_, .tup _ _ rfl (by simp)⟩
   simp [execOp, hop, resolve, hcal, ha', invoke, builtin, Builtin.clear_, hat, hcx, run_underlying hu]
  ·rcases had with h00 | rfl
   ·omega
   ·have hmul : (off + n) * i.size ≤ c.length * i.size := Nat.mul_le_mul_right _ hle
    rw [Nat.add_mul] at hmul
    have hzl : (Builtin.zeroCells z.cells n).toList.length = n * i.size := by rw [Array.length_toList, size_zeroCells, hsz]
    have hone : ∀ u ∈ (Builtin.zeroCells z.cells n).toList, u.oneCell' = true := by
     intro u hu2
     obtain ⟨k, hk, rfl⟩ := List.mem_iff_getElem.1 hu2
     rw [hzl] at hk
     have hg2 := z5d (z := z.cells) (n := n) (k := k) (by rw [hsz]; exact hk)
     have hg3 : (Builtin.zeroCells z.cells n)[k]? = some (Builtin.zeroCells z.cells n).toList[k] := by rw [← Array.getElem?_toList, List.getElem?_eq_getElem]
     rw [hg3] at hg2
     have hm2 : k % z.cells.size < z.cells.size := Nat.mod_lt _ (by omega)
     have hlt : k % z.cells.size < zs.length := by omega
     have := q3 (k % z.cells.size) _ (List.getElem?_eq_getElem hlt)
     have hv2 : z.cells.toList.getD (k % z.cells.size) undef = z.cells.getD (k % z.cells.size) undef := by simp [Array.getD_eq_getD_getElem?, List.getD_eq_getElem?_getD]
     rw [Option.some.inj hg2, ← hv2]
     exact this.scalar_one (q2 _ (List.getElem_mem hlt))
    have hst := run_storeCells_at P b (off * i.size) T (Builtin.zeroCells z.cells n).toList 0 cc w p2 (by rw [hzl]; omega) hone
    simp only [Nat.add_zero] at hst
    generalize hnew : (cc.toList.take (off * i.size) ++ (Builtin.zeroCells z.cells n).toList ++ cc.toList.drop (off * i.size + (Builtin.zeroCells z.cells n).toList.length)).toArray = c2 at hst
    have hsz' : c2.size = cc.size := by rw [← hnew]; simp only [List.size_toArray, List.length_append, List.length_take, List.length_drop, hzl, Array.length_toList]; omega
    have hget : ∀ k, c2.getD k undef = if off * i.size ≤ k ∧ k < off * i.size + n * i.size then (Builtin.zeroCells z.cells n).toList.getD (k - off * i.size) undef else cc.getD k undef := by
     intro k
     rw [← hnew, z38 cc _ _ (by rw [hzl]; omega), hzl]
    have hrow : RowF m h w i.size (c.take off ++ List.replicate n zs ++ c.drop (off + n)) (fun k => c2.getD k undef) := by
     have r1 := p4.take off
     have r2 : RowF m h w i.size (List.replicate n zs) (fun k => c2.getD (off * i.size + k) undef) := zhs hzs hsz h0 fun k hk => by
      rw [hget, if_pos ⟨by omega, by omega⟩, Nat.add_sub_cancel_left]
      have hg2 := z5d (z := z.cells) (n := n) (k := k) (by rw [hsz]; exact hk)
      rw [List.getD_eq_getElem?_getD, Array.getElem?_toList, hg2, hsz]; rfl
     have r3 := p4.drop (off + n)
     have r12 := RowF.append r1 r2
     have hl1 : (c.take off).length = off := by simp; omega
     have hl12 : (c.take off ++ List.replicate n zs).length = off + n := by simp; omega
     refine (RowF.append r12 r3).congr fun k hk => ?_
     rw [hl12, hl1, Nat.add_mul]
     rw [hcl] at hk
     by_cases k1 : k < off * i.size + n * i.size
     ·rw [if_pos k1]
      by_cases k2 : k < off * i.size
      ·rw [if_pos k2, hget, if_neg (by omega)]
      ·rw [if_neg k2, show off * i.size + (k - off * i.size) = k by omega]
     ·rw [if_neg k1, hget, if_neg (by omega)]
      congr 1; omega
    obtain ⟨r1, r2⟩ := zad hr hg hmb p2 hsz' hcl p3 hrow
    refine ⟨_, _, r1, r2, .tuple #[], ?_, .tup _ _ rfl (by simp)⟩
    obtain ⟨n', rfl⟩ : ∃ n', n = n' + 1 := ⟨n - 1, by omega⟩
    simp [execOp, hop, resolve, hcal, ha', invoke, builtin, Builtin.clear_, hat, hcx, run_underlying hu, zeroValue, z1c hinf, hzz, hst]
theorem zs2 (hr : HR m h w) (hf : ¬ h.used nm) {id sz n : Nat} {c : List (List AV)} (hg : h.get id = some (.mem sz c)) (hn : n ≤ c.length) {v : Value} (hv : VR m h w (.ref id 0 n) v) :
  ∃ m', HR m' ((h.set id none).put nm (.mem sz (c.take n))) w ∧ Step m h w m' ((h.set id none).put nm (.mem sz (c.take n))) w ∧ VR m' ((h.set id none).put nm (.mem sz (c.take n))) w (.ref nm 0 n) v := by
 cases hv with
 | ref _ _ _ cap a hu hc ha =>
  obtain ⟨b, hb, hle, had, cc, T, hcc, hsz⟩ := ha _ _ hg
  obtain ⟨b', cc', T', q1, q2, q3, q4⟩ := hr.obj _ _ hg
  rw [hb] at q1; cases q1
  rw [q2] at hcc; cases hcc
  obtain ⟨r1, r2⟩ := zfu (nm := nm) hr hf hg hb
  have hsame : ((h.set id none).put nm (.mem sz (c.take n))).get nm = some (.mem sz (c.take n)) := by simp [AHeap.put]
  -- the same heap but for the row's length
  have st : Step m h w (upd m nm (some (b, 0))) ((h.set id none).put nm (.mem sz (c.take n))) w := {
   os := r2.os, tape := r2.tape, output := r2.output, size := r2.size
   kind := fun k cc T fz hk hfr => ⟨cc, hk, rfl⟩
   free := fun k hk hfr => ⟨rfl, fun j s y hgj hmj => by
    by_cases e : j = nm
    ·subst e; exact (r2.free k hk hfr).2 j s (.mem sz c) (by simp [AHeap.put]) hmj
    ·exact (r2.free k hk hfr).2 j s y (by simpa [AHeap.put, e] using hgj) hmj⟩
   cell := fun k o v hcell hn2 => ⟨hcell, fun ⟨j, s, ⟨y, hgj⟩, hmj, hle2⟩ => (r2.cell k o v hcell hn2).2 (by
    by_cases e : j = nm
    ·subst e; exact ⟨j, s, ⟨.mem sz c, by simp [AHeap.put]⟩, hmj, hle2⟩
    ·exact ⟨j, s, ⟨y, by simpa [AHeap.put, e] using hgj⟩, hmj, hle2⟩)⟩
   used := fun id hu => z14 (h := h.set _ none) hu
   live := fun j x' huj hgj => by
    have e : j ≠ nm := z3i hf huj
    exact r2.live j x' huj (by simpa [AHeap.put, e] using hgj) }
  refine ⟨upd m nm (some (b, 0)), ⟨(hr.del id).put_gapl, (hr.del id).put_live, fun i j y z b2 s r hi hj hmi hmj => ?_, fun j y hgj => ?_⟩, st, .ref nm 0 n cap a z3 hc fun sz' c' hg' => ?_⟩
  ·have lv : ∀ k u, ((h.set id none).put nm (.mem sz (c.take n))).get k = some u → ∃ u', ((h.set id none).put nm (.mem sz c)).get k = some u' := fun k u hk => by
    by_cases e : k = nm
    ·subst e; exact ⟨_, by simp [AHeap.put]; rfl⟩
    ·exact ⟨u, by simpa [AHeap.put, e] using hk⟩
   obtain ⟨y', hy'⟩ := lv i y hi
   obtain ⟨z', hz'⟩ := lv j z hj
   exact r1.inj i j y' z' b2 s r hy' hz' hmi hmj
  ·by_cases e : j = nm
   ·subst e
    simp only [AHeap.put, if_true] at hgj
    cases hgj
    refine ⟨b, cc, T, by simp [upd], q2, ?_, (q4.take n).step st⟩
    have : (c.take n).length * sz ≤ c.length * sz := Nat.mul_le_mul_right _ (by simp; omega)
    omega
   ·have hgj' : (h.set id none).get j = some y := by simpa [AHeap.put, e] using hgj
    have hne : j ≠ id := fun e2 => by subst e2; simp [AHeap.set] at hgj'
    have hgj2 : h.get j = some y := by simpa [AHeap.set, hne] using hgj'
    exact (hr.obj j y hgj2).step st (by simp [upd, e]) fun _ _ _ => rfl
  ·rw [hsame] at hg'
   cases hg'
   exact ⟨b, by simp [upd], by simp; omega, had, cc, T, q2, hsz⟩
theorem Cvt.trim {s id n sz nx : Nat} {c c' : List (List AV)} (hs : lk s e = some (.ref id 0 n)) (hg : h.get id = some (.mem sz c)) (hn : n ≤ c.length) (hc : c.take n = c') (hx : h.next = nx) : Cvt e h ((s, some (.ref nx 0 n)) :: e) ((h.set id none).put nx (.mem sz c')) := fun N m w a hr he => by
 subst hx hc
 obtain ⟨m', k1, k2, k3⟩ := zs2 hr (z10 hr) hg hn (he.val s _ hs)
 refine ⟨m', k1, ?_, k2⟩
 have he' := he.step k2
 refine ⟨he'.size, he'.defers, fun i v hi => ?_⟩
 simp only [z7, z1k] at hi
 split at hi
 ·rename_i e1; subst e1; cases hi; exact k3
 ·exact he'.val i v hi
end
end Go.Abs


namespace Go.Abs
open Go
section
variable {P : Program} {N : Nat} {e : Env} {h : AHeap} {m : Inj} {w : World} {nm : Nat}
theorem ztm {o : Oper} {t : Nat} {x : Opd} (hc : z9 P N o = some (.mkif t x)) : ∃ xo u, o.op = .makeInterface t xo ∧ P.underlying t = some u ∧ (∀ ms, u ≠ .interface ms) ∧ ofOpd N xo = some x := by
  cases hop : o.op <;> simp only [z9, hop] at hc <;> try (cases hc; done)
  case makeInterface t2 xo =>
    split at hc
    · cases hc
    · rename_i u hn hu hx
      cases hc
      exact ⟨_, _, rfl, ‹_›, fun ms e => by subst e; exact hn _ rfl, ‹_›⟩
    · cases hc
  all_goals
    (repeat' split at hc
     all_goals first
       | (cases hc; done)
       | (rw [Option.map_eq_some_iff] at hc; obtain ⟨_, _, h⟩ := hc; cases h; done)
       | contradiction)
theorem XOK.mkif {t : Nat} {x : Opd} {v : AV} (hx : ev e x = some v) : XOK P N (.mkif t x) e h (some (.iface t v)) .none := by
 intro o hc e2 hs m w a hr he
 obtain ⟨xo, u, hop, hu, hn, h1⟩ := ztm hc
 have hx2 : ev e2 x = some v := (z5 fun s h => hs s (by simp [zp, h])).trans hx
 have e1 := he.eval h1 hx2
 refine OpOK.pure hr (cv := .iface t (a.eval xo)) ?_ (.iface _ _ _ e1)
 simp only [execOp, hop, Instr.makeInterface, Sem.run_bind, run_underlying hu, Result.andThen_ok]
 cases u <;> first | rfl | exact absurd rfl (hn _)
theorem ztn {o : Oper} {t : Nat} {ok : Bool} {z : AV} {x : Opd} (hc : z9 P N o = some (.asrt t ok z x)) : ∃ xo xt k, o.op = .typeAssert xo xt t ok ∧ P.underlying t = some (.int k) ∧ ofOpd N xo = some x := by
  cases hop : o.op <;> simp only [z9, hop] at hc <;> try (cases hc; done)
  case typeAssert xo xt t2 ok2 =>
    repeat' split at hc
    all_goals first
      | (cases hc; exact ⟨_, _, _, rfl, ‹_›, ‹_›⟩)
      | (cases hc; done)
  all_goals
    (repeat' split at hc
     all_goals first
       | (cases hc; done)
       | (rw [Option.map_eq_some_iff] at hc; obtain ⟨_, _, h⟩ := hc; cases h; done)
       | contradiction)
theorem XOK.asrt {t : Nat} {z : AV} {x : Opd} {v : AV} (hx : ev e x = some (.iface t v)) : XOK P N (.asrt t true z x) e h (some (.tup [v, .bool true])) .none := by
 intro o hc e2 hs m w a hr he
 obtain ⟨xo, xt, k, hop, hu, h1⟩ := ztn hc
 have hx2 : ev e2 x = some (.iface t v) := (z5 fun s h => hs s (by simp [zp, h])).trans hx
 have e1 := he.eval h1 hx2
 generalize hcx : a.eval xo = cx at e1
 cases e1 with
 | iface _ _ c q =>
  refine OpOK.pure hr (cv := .tuple #[c, .bool true]) ?_ (.tup _ _ rfl fun i v hi => ?_)
  ·simp [execOp, hop, Instr.typeAssert, Sem.run_bind, run_underlying hu, hcx]
  ·rcases i with _ | _ | i
   ·cases hi; exact q
   ·cases hi; exact .bool _
   ·simp at hi
def methF (P : Program) (t : Nat) (nm : String) : Option Nat :=
 match P.info? t, P.underlying t with
 | some i, some (.pointer _) => match i.methods.find? (·.name == nm) with
  | some m => if m.path.toList.isEmpty then match m.func with
   | some (f, true) => some f
   | _ => none
   else none
  | none => none
 | _, _ => none
theorem zfv {t f : Nat} {s : String} (hm : methF P t s = some f) (fuel : Nat) (v : Value) (w : World) : (method (fuel + 1) t v s).run P w = .ok (f, v) w := by
 unfold methF at hm
 split at hm
 ·rename_i i q hi hu
  split at hm
  ·rename_i mt hmt
   split at hm
   ·rename_i hp
    split at hm
    ·rename_i g hg
     cases hm
     have hp2 : mt.path.toList = [] := by simpa using hp
     simp [method, z1c hi, hmt, hp2, follow, hg, receiverAt, run_underlying hu, Place.get]
    ·cases hm
   ·cases hm
  ·cases hm
 ·cases hm
theorem zqm {o : Oper} {s : String} {x : Opd} {xs : List Opd} (hc : z9 P N o = some (.inv s x xs)) : ∃ c xo, o.op = .call c ∧ c.callee = .invoke xo s ∧ ofOpd N xo = some x ∧ ofL (ofOpd N) c.args.toList = some xs := by
 obtain ⟨c, hop⟩ := z7w hc trivial
 simp only [z9, hop] at hc
 repeat' split at hc
 all_goals first
  | (cases hc; exact ⟨_, _, hop, ‹_›, ‹_›, ‹_›⟩)
  | (cases hc; done)
theorem FX.inv {h' : AHeap} {d : Option Nat} {f t : Nat} {s : String} {x : Opd} {xs : List Opd} {g : Option (Nat × Bool)} {v : AV} {vs : List AV} {r : AV} (hx : ev e x = some (.iface t v)) (hv : evL e xs = some vs) (hg : met e g) (hm : methF P t s = some f) (hb : z2d P f = true) (hac : AE P f (v :: vs) h r h') : FX P N ⟨d, .raw (.inv s x xs), g⟩ e h (some r) h' := by
  intro ops i o ho hc e2 hs m w a K Q hr he hk
  have hraw := z6r hc rfl
  rcases zw hc with ⟨hb1, hb2⟩ | ⟨hd, hdst, _, hgd⟩
  · cases hb1
  · obtain ⟨w1, w2⟩ := zo he hgd
    have hi : ∀ s2 ∈ zp (.inv s x xs), lk s2 e2 = lk s2 e := fun s2 h => hs s2 (by unfold zt; split <;> simp [z13, h])
    have hw : Region.wanted o (yielded ops a.tmps) = true := by
      cases g with
      | none => exact w1 rfl
      | some sb =>
        obtain ⟨s2, b⟩ := sb
        have hl : lk s2 e2 = some (.bool b) := (hs s2 (by simp [zt])).trans hg
        rw [w2 s2 b b rfl hl]; simp
    simp only [wpOp, ho]
    rw [if_pos hw]
    left
    obtain ⟨c, y, hop, hcal, hy, hxs⟩ := zqm hraw
    have hi1 : ∀ s2 ∈ z1u xs, lk s2 e2 = lk s2 e := fun s2 h => hi s2 (by unfold zp; simp [h])
    have hi2 : ∀ s2 ∈ zl x, lk s2 e2 = lk s2 e := fun s2 h => hi s2 (by unfold zp; simp [h])
    obtain ⟨hl1, hl2⟩ := he.evalL hxs ((z25 hi1).trans hv)
    have hfv := he.eval hy ((z5 hi2).trans hx)
    generalize hcx : a.eval y = cx at hfv
    cases hfv with
    | iface _ _ cv q =>
      have hx1 : ∀ (u : Value) (X : Array Value), (#[u] ++ X)[0]? = some u := fun u X => by rw [Array.getElem?_append_left (by simp)]; rfl
      have hx2 : ∀ (u : Value) (X : Array Value), (#[u] ++ X).extract 1 (#[u] ++ X).size = X := fun u X => by
        apply Array.ext'
        simp
      have hx3 : P.types.size + Made.depth = (P.types.size + 99) + 1 := rfl
      have hrun : (execOp a.eval o).run P w = .ok (.enter f (#[cv] ++ c.args.map a.eval)) w := by
        simp only [execOp, hop, resolve, hcal, hcx, Sem.run_bind, Sem.run_pure, Result.andThen_ok, invoke, hx1, hx2, callMethod, run_program, hx3, zfv hm, z19 hb]
      refine z2y hrun hr (by have : vs.length = c.args.size := by simpa using hl1
                             simp; omega) (fun j v2 hj => ?_) hac fun v2 w' m' r1 h1 g1 g2 g3 ⟨g4, g5⟩ => ?_
      · simp only [Array.getD_eq_getD_getElem?]
        rcases j with _ | j
        · cases hj
          rw [hx1]
          exact q
        · have := hl2 j v2 (by simpa using hj)
          rw [Array.getElem?_append_right (by simp)]
          simpa [List.getD_eq_getElem?_getD] using this
      · subst g4; subst g5
        refine hk m' w' _ g1 ?_ g3
        have hd' : d = o.dst := hd
        show ER N m' h1 w' (putR d (some r1) e2) _
        rw [hd']
        exact (he.step g3).putR hdst g2
theorem WW.live {c : CC} {Q : Exit → Env → AHeap → Prop} (k : (∀ id x, h.get id = some x → h.used id) → WW P N c Q e h) : WW P N c Q e h := ⟨fun code hc m w a hr he => (k hr.live).out code hc m w a hr he⟩
theorem WL.live {l : List CI} {Q : Exit → Env → AHeap → Prop} (k : (∀ id x, h.get id = some x → h.used id) → WL P N l Q e h) : WL P N l Q e h := ⟨fun ops idx h1 h2 m w a hr he => (k hr.live).out ops idx h1 h2 m w a hr he⟩
end
end Go.Abs


namespace Go.Proofs.YthblcmnhiccnhaaGreat
open Go Go.Abs

def encSl (n : Nat) : List AV := [.int .i64 n]
structure AgS where
 last : List Int
 ticks : Int
 arr : List Nat
def ag0 : AgS := ⟨List.replicate 16 0, 0, []⟩
def AgS.row (s : AgS) (q : Nat) : List AV := s.last.map (.int .i64 ·) ++ [.int .i64 s.ticks, .ptr q 0 0]
def SlV (h : AHeap) (v : AV) (arr : List Nat) (E : Nat) : Prop := (v = .nils ∧ arr = []) ∨ (v = .ref E 0 arr.length ∧ BoxAt h E (.mem 1 (arr.map encSl)))
def agF (a : Nat) : AV := .func (.func 125) [.ptr a 0 0] []
structure AgAt (h : AHeap) (a q E : Nat) (s : AgS) : Prop where
 ob : BoxAt h a (.mem 18 [s.row q])
 qo : ∃ v, SlV h v s.arr E ∧ BoxAt h q (.mem 2 [[v, agF a]])
def RowV (h : AHeap) (v : AV) (lv : List Lf) (E : Nat) : Prop := v = .imm 8 (lv.map encL) ∨ (v = .ref E 0 lv.length ∧ BoxAt h E (.mem 8 (lv.map encL)))
structure CaN where
 w : WN
 c : Nat
 k : Nat
 a : Nat
 q : Nat
 nE : Nat
 sE : Nat
structure CaS where
 s : WS
 boot : Int
 j : Nat
 now : List Lf
 was : List Lf
 ag : AgS
 bad : Bool
def CaN.own (n : CaN) (id : Nat) : Prop := id = n.c ∨ id = n.k ∨ id = n.a ∨ id = n.q ∨ id = n.nE ∨ id = n.sE
structure CaG (md : Bool) (h : AHeap) (n : CaN) (x : CaS) : Prop where
 w : WG md h n.w x.s
 mr : BoxAt h n.k (mkO x.boot x.j)
 c : ∃ v, RowV h v x.now n.nE ∧ BoxAt h n.c (.mem 6 [[.ptr (n.w.a + 10) 0 0, .ptr n.k 0 0, v, .imm 8 (x.was.map encL), .ptr n.a 0 0, .bool x.bad]])
 ag : AgAt h n.a n.q n.sE x.ag
 nm : ∀ id, n.own id → ¬ n.w.nm md id
 lt : ∀ id, n.own id → id < h.next
 dj : n.c ≠ n.k ∧ n.c ≠ n.a ∧ n.c ≠ n.q ∧ n.k ≠ n.a ∧ n.k ≠ n.q ∧ n.a ≠ n.q ∧ (n.nE = n.c ∨ (n.nE ≠ n.k ∧ n.nE ≠ n.a ∧ n.nE ≠ n.q)) ∧ (n.sE = n.q ∨ (n.sE ≠ n.k ∧ n.sE ≠ n.a ∧ n.sE ≠ n.c)) ∧ n.nE ≠ n.sE
section
variable {W : Nat → Prop} {md : Bool} {h h' : AHeap} {n : CaN} {x : CaS}
theorem SlV.kp {v : AV} {arr : List Nat} {E : Nat} (hs : SlV h v arr E) (hk : Kp W h h') (hw : ¬ W E) : SlV h' v arr E := hs.imp id fun q => ⟨q.1, q.2.kp hk hw⟩
theorem RowV.kp {v : AV} {lv : List Lf} {E : Nat} (hs : RowV h v lv E) (hk : Kp W h h') (hw : ¬ W E) : RowV h' v lv E := hs.imp id fun q => ⟨q.1, q.2.kp hk hw⟩
theorem AgAt.kp {a q E : Nat} {s : AgS} (hs : AgAt h a q E s) (hk : Kp W h h') (h1 : ¬ W a) (h2 : ¬ W q) (h3 : ¬ W E) : AgAt h' a q E s := by
 obtain ⟨h4, v, h5, h6⟩ := hs
 exact ⟨h4.kp hk h1, v, h5.kp hk h3, h6.kp hk h2⟩
theorem CaG.kp (hg : CaG md h n x) (hk : Kp W h h') (h1 : ∀ id, n.w.nm md id → ¬ W id) (h2 : ∀ id, n.own id → ¬ W id) : CaG md h' n x := by
 obtain ⟨g1, g2, ⟨v, g3, g4⟩, g5, g6, g8, g7⟩ := hg
 exact ⟨g1.kp hk h1, g2.kp hk (h2 _ (.inr (.inl rfl))), ⟨v, g3.kp hk (h2 _ (.inr (.inr (.inr (.inr (.inl rfl)))))), g4.kp hk (h2 _ (.inl rfl))⟩, g5.kp hk (h2 _ (.inr (.inr (.inl rfl)))) (h2 _ (.inr (.inr (.inr (.inl rfl))))) (h2 _ (.inr (.inr (.inr (.inr (.inr rfl)))))), g6, fun id hi => Nat.lt_of_lt_of_le (g8 id hi) hk.next, g7⟩
theorem CaG.new (hg : CaG md h n x) (hk : Kp (fun _ => False) h h') : CaG md h' n x := hg.kp hk (fun _ _ h => h) fun _ _ h => h
end
structure CaW (h : AHeap) (n : CaN) (x : CaS) : Prop where
 g : h.get n.c = some (.mem 6 [[.ptr (n.w.a + 10) 0 0, .ptr n.k 0 0, .ref n.nE 0 x.now.length, .imm 8 (x.was.map encL), .ptr n.a 0 0, .bool x.bad]])
 ne : n.nE ≠ n.c
theorem CaW.row {md : Bool} {h : AHeap} {n : CaN} {x : CaS} (hw : CaW h n x) (hg : CaG md h n x) : BoxAt h n.nE (.mem 8 (x.now.map encL)) := by
 obtain ⟨v, q1, q2⟩ := hg.c
 have := hw.g.symm.trans q2.g
 simp only [Option.some.injEq, AObj.mem.injEq, List.cons.injEq, true_and, and_true] at this
 rcases q1 with rfl | ⟨rfl, hb⟩
 ·simp at this
 ·exact hb
theorem CaW.kp {W : Nat → Prop} {md : Bool} {h h' : AHeap} {n : CaN} {x : CaS} (hw : CaW h n x) (hg : CaG md h n x) (hk : Kp W h h') (h1 : ¬ W n.c) : CaW h' n x := by
 obtain ⟨v, q1, q2⟩ := hg.c
 exact ⟨(hk.get _ q2.u h1).trans hw.g, hw.ne⟩
theorem zls {u : Nat → Prop} (x : Lf) : ∀ v ∈ encL x, Clo u v := by
 intro v hv
 simp only [encL, List.mem_cons, List.not_mem_nil, or_false] at hv
 rcases hv with rfl | rfl | rfl | rfl | rfl | rfl | rfl | rfl <;> first | exact .int _ _ | exact .bool _
theorem z6o (l : List Lf) (hl : l.length ≤ 1000000) (h : AHeap) : AE Tryz.prog 76 [.imm 8 (l.map encL)] h (.imm 8 (l.map encL)) h := by
 refine AE.pureW z1s (by simp) ?_
 unfold z1e; dsimp only [qQ, qR, qM, qG]
 (repeat first | refine WW.seq ?_ | refine WW.reg ?_ | refine WL.nil ?_ | refine WW.skip ?_ | refine WW.block ?_ | refine thenN ?_ | refine blkN ?_); iterate 1 (refine WL.go ?_)
 (repeat first | refine WW.seq ?_ | refine WW.reg ?_ | refine WL.nil ?_ | refine WW.skip ?_ | refine WW.block ?_ | refine thenN ?_ | refine blkN ?_); iterate 1 (refine WL.go ?_)
 refine WL.fq1 (FQ.isnil rfl gM) ?_
 rintro _ h2 ⟨b, rfl, e2, hb⟩
 subst e2
 (repeat first | refine WW.seq ?_ | refine WW.reg ?_ | refine WL.nil ?_ | refine WW.skip ?_ | refine WW.block ?_ | refine thenN ?_ | refine blkN ?_)
 (refine WW.ifB rfl (fun hz1 => ?_) (fun hz1 => ?_))
 ·have : l = [] := by simpa using hb hz1
  subst this
  (refine go ?_)
  refine WW.ret (PureQ.finD ?_)
  exact .nil _
 (refine go ?_)
 refine WW.ret (PureQ.finD ?_)
 exact .app _ _ _ _ fun y hy v hv => by
  obtain ⟨z, _, rfl⟩ := List.mem_map.1 hy
  exact zls z v hv
theorem zcr {h : AHeap} {E : Nat} {l : List Lf} (hE : h.get E = some (.mem 8 (l.map encL))) (hl : l.length ≤ 1000000) : AE Tryz.prog 76 [.ref E 0 l.length] h (.imm 8 (l.map encL)) h := by
 refine AE.wf fun hwf => ?_
 have h0 := hwf _ _ hE
 refine AE.pureW z1s (by simp) ?_
 unfold z1e; dsimp only [qQ, qR, qM, qG]
 (repeat first | refine WW.seq ?_ | refine WW.reg ?_ | refine WL.nil ?_ | refine WW.skip ?_ | refine WW.block ?_ | refine thenN ?_ | refine blkN ?_); iterate 1 (refine WL.go ?_)
 (repeat first | refine WW.seq ?_ | refine WW.reg ?_ | refine WL.nil ?_ | refine WW.skip ?_ | refine WW.block ?_ | refine thenN ?_ | refine blkN ?_); iterate 1 (refine WL.go ?_)
 refine WL.go (hs := Stp.isnil (t := false) rfl rfl gM) ?_
 (repeat first | refine WW.seq ?_ | refine WW.reg ?_ | refine WL.nil ?_ | refine WW.skip ?_ | refine WW.block ?_ | refine thenN ?_ | refine blkN ?_)
 refine WW.condF rfl ?_
 (refine go ?_)
 refine WW.ret (PureQ.finD ?_)
 rw [List.drop_zero, List.take_of_length_le (by simp)]
 exact .app _ _ _ _ fun y hy v hv => by
  obtain ⟨z, _, rfl⟩ := List.mem_map.1 hy
  exact zls z v hv
theorem zfw (h : AHeap) : AC Tryz.prog 77 [] h (fun r h' => ∃ a q, r = .ptr a 0 0 ∧ AgAt h' a q q ag0 ∧ a ≠ q ∧ h.next ≤ a ∧ h.next ≤ q ∧ Kp (fun _ => False) h h') := by
 refine AC.introW zp1 (by simp) ?_
 unfold zim; dsimp only [qQ, qR, qM, qG]
 (refine go ?_)
 refine WW.live fun hl => ?_
 have g1 : (((h.put h.next (.mem 18 [List.replicate 17 (AV.int .i64 0) ++ [.nilp]])).put (h.next + 1) (.mem 2 [[.nils, agF h.next]])).set h.next (some (.mem 18 [ag0.row (h.next + 1)]))).get h.next = some (.mem 18 [ag0.row (h.next + 1)]) := gH
 have g2 : (((h.put h.next (.mem 18 [List.replicate 17 (AV.int .i64 0) ++ [.nilp]])).put (h.next + 1) (.mem 2 [[.nils, agF h.next]])).set h.next (some (.mem 18 [ag0.row (h.next + 1)]))).get (h.next + 1) = some (.mem 2 [[.nils, agF h.next]]) := gH
 exact WW.ret ⟨.inl rfl, _, gRES, h.next, h.next + 1, rfl, ⟨⟨hl _ _ g1, g1⟩, _, .inl ⟨rfl, rfl⟩, ⟨hl _ _ g2, g2⟩⟩, by omega, Nat.le_refl _, by omega, (by repeat first | exact Kp.refl | assumption | with_reducible refine Kp.put ?_ (by omega) _ | with_reducible refine Kp.setN ?_ (by omega) _ | with_reducible refine Kp.keep ?_ _ | with_reducible refine Kp.setW ?_ (by rfl) _)⟩
end Go.Proofs.YthblcmnhiccnhaaGreat


namespace Go.Proofs.YthblcmnhiccnhaaGreat
open Go Go.Abs

theorem zfx {md : Bool} {h : AHeap} {n : WN} {s : WS} {k : Nat} (hg : WG md h n s) (hs : WSt md s k) (hgo : s.pw.gone = false) (hv : s.ct.value = 0) :
  AC Tryz.prog 73 [.ptr (n.a + 10) 0 0] h
   (fun r h' => ∃ E m, r = .tup [.ref E 0 m, .int .i64 0] ∧ (m : Int) = s.n ∧ BoxAt h' E (.mem 8 ((List.replicate m lf0).map encL)) ∧ h.next ≤ E ∧ Kp (fun _ => False) h h') := by
 refine AC.introW z8e (by simp) ?_
 unfold z5e; dsimp only [qQ, qR, qM, qG]
 have hob := hg.w.w
 simp only [wRow] at hob
 have hgg := z2 hs.fit.g
 obtain ⟨m, hm⟩ : ∃ m : Nat, s.n = m := ⟨s.n.toNat, by omega⟩
 rw [hm] at hob
 (refine go ?_)
 refine WL.call rfl gM gSL (z21 hg.w.sd.pw) ?_
 rw [hgo]
 (refine go ?_)
 refine WL.call rfl gM gSL (z4u (p := n.p) hg.w.ct) ?_
 rw [hv]
 (refine go ?_)
 refine WW.live fun hl => ?_
 refine WW.ret ⟨.inl rfl, _, gRES, h.next, m, rfl, hm.symm, ?_, Nat.le_refl _, (by repeat first | exact Kp.refl | assumption | with_reducible refine Kp.put ?_ (by omega) _ | with_reducible refine Kp.setN ?_ (by omega) _ | with_reducible refine Kp.keep ?_ _ | with_reducible refine Kp.setW ?_ (by rfl) _)⟩
 rw [List.map_replicate]
 exact ⟨hl _ _ gH, gH⟩
theorem z7b {md : Bool} {h : AHeap} {n : CaN} {x : CaS} (hg : CaG md h n x) (he : x.s.ks.epochs.length < 2) : AE Tryz.prog 79 [.ptr n.c 0 0] h (.int .i64 0) h := by
 obtain ⟨g1, g2, ⟨v, g3, g4⟩, g5, g6, g8, g7⟩ := hg
 have hc := g4.g
 have hob := g1.w.w
 simp only [wRow] at hob
 refine AE.pureW z8f (by simp) ?_
 unfold z45; dsimp only [qQ, qR, qM, qG]
 (refine go ?_)
 refine WL.call rfl gM gSL (z89 g1.w.ks) ?_
 (refine go ?_)
 (refine WW.ifB rfl (fun hz1 => ?_) (fun hz1 => ?_))
 ·(refine go ?_)
  refine WW.ret (PureQ.finD ?_)
  exact fz_i rfl
 ·exfalso
  first | (simp at hz1; omega) | omega | (rw [List.length_map] at hz1; omega)
def caNew (s : WS) (m : Nat) : CaS := ⟨s.bootS, s.ct.boots + 1, 0, List.replicate m lf0, List.replicate m lf0, ag0, false⟩
set_option maxHeartbeats 4000000 in
theorem zfy {md : Bool} {h : AHeap} {n : WN} {s : WS} {k : Nat} (hg : WG md h n s) (hs : WSt md s k) (hk : k ≤ 80000) (hf : s.pw.Free) (hv : s.ct.value = 0) (he : s.ks.epochs.length < 2) :
  AC Tryz.prog 23 [.ptr (n.a + 10) 0 0] h
   (fun r h' => ∃ (N : CaN) (m : Nat), r = .tup [.ptr N.c 0 0, .int .i64 0] ∧ N.w = n ∧ (m : Int) = s.n ∧ CaG md h' N (caNew s m) ∧ (∀ id, N.own id → h.next ≤ id) ∧ Kp (n.own md) h h' ∧ CaW h' N (caNew s m)) := by
 refine AC.introW z9w (by simp) ?_
 unfold z6g; dsimp only [qQ, qR, qM, qG]
 have hob := hg.w.w
 simp only [wRow] at hob
 have hna : n.a + 11 ≤ h.next := hg.w.nx
 have hlt : ∀ id, n.nm md id → id < h.next := fun id hi => (hg.us id hi).1
 have hgg := z2 hs.fit.g
 obtain ⟨ct1, ct2, ct3⟩ := hs.ct
 (refine go ?_)
 refine WL.call rfl gM gSL (z21 hg.w.sd.pw) ?_
 rw [show s.pw.gone = false from hf.g]
 (refine go ?_)
 refine WL.call rfl gM gSL (znq hg hs (by omega)) ?_
 have hcan := hf.can
 have hbc := zca hf
 refine WL.named (fun h2 => WG md h2 n s.bootS ∧ Kp (n.own md) h h2) ⟨hg.boot, kp_ct n _ _⟩ ?_
 rintro h2 ⟨g2, k2⟩
 have hx2 := k2.next
 have hs2 := hs.boot
 have hf2 : s.bootS.pw.Free := hf.spend
 rw [hcan]
 clear hob
 have hob := g2.w.w
 simp only [wRow] at hob
 (refine go ?_)
 refine WL.callA rfl gM gSL (zfx g2 hs2 hf2.g (by rw [hbc]; exact hv)) ?_
 rintro _ h3 ⟨E, m, rfl, hm, bE, hE, k3⟩
 have hm' : (m : Int) = s.n := hm
 have g3 := g2.new k3
 have hx3 := k3.next
 have hct := g3.w.ct
 rw [hbc] at hct
 clear hob g2
 have hob := g3.w.w
 simp only [wRow] at hob
 (refine go ?_)
 refine WL.call rfl gM gSL (z88 (p := n.p) hct) ?_
 (refine go ?_)
 refine WL.call rfl gM gSL (zbj rfl (s.ct.boots + 1) (by omega)) ?_
 have hElt : E < h3.next := bE.u.1
 refine WL.named (fun h4 => WG md h4 n s.bootS ∧ Kp (fun _ => False) h3 h4 ∧ BoxAt h4 h3.next (mkO (s.ct.boots + 1) 0) ∧ BoxAt h4 E (.mem 8 ((List.replicate m lf0).map encL))) ⟨g3.new (by repeat first | exact Kp.refl | assumption | with_reducible refine Kp.put ?_ (by omega) _ | with_reducible refine Kp.setN ?_ (by omega) _ | with_reducible refine Kp.keep ?_ _ | with_reducible refine Kp.setW ?_ (by rfl) _), (by repeat first | exact Kp.refl | assumption | with_reducible refine Kp.put ?_ (by omega) _ | with_reducible refine Kp.setN ?_ (by omega) _ | with_reducible refine Kp.keep ?_ _ | with_reducible refine Kp.setW ?_ (by rfl) _), ⟨z3, gH⟩, bE.kp (W := fun _ => False) (by repeat first | exact Kp.refl | assumption | with_reducible refine Kp.put ?_ (by omega) _ | with_reducible refine Kp.setN ?_ (by omega) _ | with_reducible refine Kp.keep ?_ _ | with_reducible refine Kp.setW ?_ (by rfl) _) (fun h => h)⟩ ?_
 have hmkN : ∀ id, n.nm md id → id < h3.next := fun id hi => by have := hlt id hi; omega
 rintro h4 ⟨g4, k4, b4, e4⟩
 have hx4 := k4.next
 generalize h3.next = mk at *
 have hmk4 : mk < h4.next := b4.u.1
 clear hob g3
 have hob := g4.w.w
 simp only [wRow] at hob
 (refine go ?_)
 have e4' := e4.g
 have hCl := zcr e4.g (by simp; omega)
 rw [List.length_replicate] at hCl
 refine WL.call rfl gM gSL (hCl) ?_
 (refine go ?_)
 refine WL.callA rfl gM gSL (zfw _) ?_
 rintro _ h5 ⟨a, q, rfl, ag5, haq, ha, hq, k5⟩
 have hx5 := k5.next
 have hap : a < h5.next := ag5.ob.u.1
 have hqp : q < h5.next := by obtain ⟨v, _, h6⟩ := ag5.qo; exact h6.u.1
 have g5 := g4.new k5
 have b5 := b4.kp k5 (fun h => h)
 have e5 := e4.kp k5 (fun h => h)
 clear hob e4'
 (repeat first | refine WW.seq ?_ | refine WW.reg ?_ | refine WL.nil ?_ | refine WW.skip ?_ | refine WW.block ?_ | refine thenN ?_ | refine blkN ?_); iterate 3 (refine WL.go ?_)
 refine WL.named (fun h6 => CaG md h6 ⟨n, h5.next, mk, a, q, E, q⟩ (caNew s m) ∧ Kp (fun _ => False) h5 h6 ∧ BoxAt h6 E (.mem 8 ((List.replicate m lf0).map encL)) ∧ BoxAt h6 h5.next (.mem 6 [[.ptr (n.a + 10) 0 0, .ptr mk 0 0, .ref E 0 m, .imm 8 ((List.replicate m lf0).map encL), .ptr a 0 0, .bool false]])) ⟨⟨g5.new (by repeat first | exact Kp.refl | assumption | with_reducible refine Kp.put ?_ (by omega) _ | with_reducible refine Kp.setN ?_ (by omega) _ | with_reducible refine Kp.keep ?_ _ | with_reducible refine Kp.setW ?_ (by rfl) _), b5.kp (W := fun _ => False) (by repeat first | exact Kp.refl | assumption | with_reducible refine Kp.put ?_ (by omega) _ | with_reducible refine Kp.setN ?_ (by omega) _ | with_reducible refine Kp.keep ?_ _ | with_reducible refine Kp.setW ?_ (by rfl) _) (fun h => h), ⟨.ref E 0 m, .inr ⟨by simp [caNew], e5.kp (W := fun _ => False) (by repeat first | exact Kp.refl | assumption | with_reducible refine Kp.put ?_ (by omega) _ | with_reducible refine Kp.setN ?_ (by omega) _ | with_reducible refine Kp.keep ?_ _ | with_reducible refine Kp.setW ?_ (by rfl) _) (fun h => h)⟩, ⟨z3, gH⟩⟩, ag5.kp (W := fun _ => False) (by repeat first | exact Kp.refl | assumption | with_reducible refine Kp.put ?_ (by omega) _ | with_reducible refine Kp.setN ?_ (by omega) _ | with_reducible refine Kp.keep ?_ _ | with_reducible refine Kp.setW ?_ (by rfl) _) (fun h => h) (fun h => h) (fun h => h), ?_, ?_, ?_⟩, (by repeat first | exact Kp.refl | assumption | with_reducible refine Kp.put ?_ (by omega) _ | with_reducible refine Kp.setN ?_ (by omega) _ | with_reducible refine Kp.keep ?_ _ | with_reducible refine Kp.setW ?_ (by rfl) _), e5.kp (W := fun _ => False) (by repeat first | exact Kp.refl | assumption | with_reducible refine Kp.put ?_ (by omega) _ | with_reducible refine Kp.setN ?_ (by omega) _ | with_reducible refine Kp.keep ?_ _ | with_reducible refine Kp.setW ?_ (by rfl) _) (fun h => h), ⟨z3, gH⟩⟩ ?_
 ·intro id hid hn
  have := hlt id hn
  rcases hid with rfl | rfl | rfl | rfl | rfl | rfl <;> (dsimp only at *; omega)
 ·intro id hid
  have hL : h5.next < (((h5.put h5.next (.mem 6 [[.ptr (n.a + 10) 0 0, .ptr mk 0 0, .ref E 0 m, .imm 8 ((List.replicate m lf0).map encL), .ptr a 0 0, .bool false]])))).next := (ltN gN (by omega))
  rcases hid with rfl | rfl | rfl | rfl | rfl | rfl <;> first | omega | (dsimp only; omega)
 ·dsimp only
  refine ⟨by omega, by omega, by omega, by omega, by omega, haq, .inr ⟨by omega, by omega, by omega⟩, .inl rfl, by omega⟩
 have hc5 : h.next ≤ h5.next := by omega
 generalize h5.next = c at *
 clear g5 b5 e5 ag5 g4 b4 e4 bE
 rintro h6 ⟨g6, k6, e6, c6⟩
 have k7 : Kp (n.own md) h h6 := k2.trans ((k3.trans (k4.trans (k5.trans k6))).mono fun _ _ h => h.elim)
 clear k2 k3 k4 k5 k6
 (refine go ?_)
 refine WW.loopE (fun (i : Nat) => [(7, some (.ptr c 0 0)), (57, some (.ref E 0 m)), (58, some (.int .i64 m)), (59, some (.int .i64 i))])
  (fun i h' => Kp (fun _ => False) h6 h' ∧ i ≤ m) (fun i => m - i) 0 gSUB ⟨Kp.refl, Nat.zero_le _⟩ ?_
 rintro i h7 ⟨k8, hi⟩
 have g7 := g6.new k8
 have hx6 := k8.next
 (refine go ?_)
 (refine WW.ifB rfl (fun hz1 => ?_) (fun hz1 => ?_))
 ·have hi2 : i < m := by omega
  have e7 := (e6.kp k8 (fun h => h)).g
  have hlr : (List.replicate m lf0).length = m := by simp
  have hlf : ∀ (j : Nat) (hj : j < (List.replicate m lf0).length), (List.replicate m lf0)[j] = lf0 := fun j hj => List.getElem_replicate _
  (refine go ?_)
  (refine WW.ifB rfl (fun hz2 => ?_) (fun hz2 => ?_))
  ·exfalso
   rw [hlf] at hz2
   simp [lf0] at hz2
  (refine go ?_)
  exact ⟨i + 1, gSUB, ⟨(by repeat first | exact Kp.refl | assumption | with_reducible refine Kp.put ?_ (by omega) _ | with_reducible refine Kp.setN ?_ (by omega) _ | with_reducible refine Kp.keep ?_ _ | with_reducible refine Kp.setW ?_ (by rfl) _), by omega⟩, by omega⟩
 ·have hi2 : i = m := by omega
  (refine go ?_)
  refine WL.call rfl gM gSL (z7b g7 he) ?_
  (refine go ?_)
  exact WW.ret ⟨.inl rfl, _, gRES, ⟨n, c, mk, a, q, E, q⟩, m, rfl, rfl, hm', g7, fun id hid => by rcases hid with rfl | rfl | rfl | rfl | rfl | rfl <;> first | omega | (dsimp only; omega), k7.trans (k8.mono fun _ _ h => h.elim), ⟨by rw [show (caNew s m).now.length = m from List.length_replicate]; exact (c6.kp k8 (fun h => h)).g, by dsimp only; omega⟩⟩
end Go.Proofs.YthblcmnhiccnhaaGreat


namespace Go.Proofs.YthblcmnhiccnhaaGreat
open Go Go.Abs

def boxO (w : Nat) (c : AV) (snaps : AV) : AObj := .mem 3 [[.ptr w 0 0, c, snaps]]
set_option maxHeartbeats 1000000 in
theorem zbt (md : Bool) (m : Nat) (hk : isG m = true) (seed : Int) (h : AHeap) : AC Tryz.prog 15 [.int .i64 m, .int .u64 seed, .bool md] h
  (fun r h' => ∃ (N : CaN) (b : Nat), r = .tup [.ptr b 0 0, .int .i64 0] ∧ CaG md h' N (caNew (ws0 m seed) m) ∧ BoxAt h' b (boxO (N.w.a + 10) (.ptr N.c 0 0) .nils) ∧ (∀ id, N.w.nm md id → h.next ≤ id) ∧ (∀ id, N.own id → h.next ≤ id) ∧ h.next ≤ b ∧ (¬ N.w.nm md b ∧ ¬ N.own b) ∧ Kp (fun id => h.next ≤ id) h h' ∧ CaW h' N (caNew (ws0 m seed) m)) := by
 refine AC.introW zdg (by simp) ?_
 unfold z99; dsimp only [qQ, qR, qM, qG]
 (refine go ?_)
 refine WL.callA rfl gM gSL (zjl md m hk seed h) ?_
 rintro _ h1 ⟨n, rfl, g1, hn, k1⟩
 have hx1 := k1.next
 have S0 := wst0 md hk seed
 have hf0 := ze7 m seed
 (refine go ?_)
 refine WL.callA rfl gM gSL (zfy g1 S0 (by omega) hf0 rfl (by simp [ws0])) ?_
 rintro _ h2 ⟨N, m', rfl, rfl, hm', g2, hN, k2, w2⟩
 have hmm : m' = m := by have : (m' : Int) = m := hm'; omega
 subst hmm
 have hx2 := k2.next
 have hNlt := g2.lt
 have hwlt : ∀ id, N.w.nm md id → id < h2.next := fun id hi => (g2.w.us id hi).1
 (refine go ?_)
 refine WW.ret ⟨.inl rfl, _, gRES, N, h2.next, rfl, g2.new (by repeat first | exact Kp.refl | assumption | with_reducible refine Kp.put ?_ (by omega) _ | with_reducible refine Kp.setN ?_ (by omega) _ | with_reducible refine Kp.keep ?_ _ | with_reducible refine Kp.setW ?_ (by rfl) _), ⟨z3, gH⟩, hn, fun id hi => Nat.le_trans hx1 (hN id hi), by omega, ⟨fun hi => by have := hwlt _ hi; omega, fun hi => by have := hNlt _ hi; omega⟩, ?_, w2.kp (W := fun _ => False) g2 (by repeat first | exact Kp.refl | assumption | with_reducible refine Kp.put ?_ (by omega) _ | with_reducible refine Kp.setN ?_ (by omega) _ | with_reducible refine Kp.keep ?_ _ | with_reducible refine Kp.setW ?_ (by rfl) _) (fun h => h)⟩
 exact k1.trans ((k2.mono fun id _ hi => hn id (.inl (WN.own_all hi))).trans (((by repeat first | exact Kp.refl | assumption | with_reducible refine Kp.put ?_ (by omega) _ | with_reducible refine Kp.setN ?_ (by omega) _ | with_reducible refine Kp.keep ?_ _ | with_reducible refine Kp.setW ?_ (by rfl) _) : Kp (fun _ => False) h2 _).mono fun _ _ h => h.elim))
theorem zmv (md : Bool) (m : Nat) (hk : isG m = true) (seed : Int) (h : AHeap) : AC Tryz.prog 15 [.int .i64 m, .int .u64 seed, .bool md] h
  (fun r h' => ∃ (N : CaN) (b : Nat), r = .tup [.ptr b 0 0, .int .i64 0] ∧ CaG md h' N (caNew (ws0 m seed) m) ∧ BoxAt h' b (boxO (N.w.a + 10) (.ptr N.c 0 0) .nils) ∧ (∀ id, N.w.nm md id → h.next ≤ id) ∧ (∀ id, N.own id → h.next ≤ id) ∧ h.next ≤ b ∧ (¬ N.w.nm md b ∧ ¬ N.own b) ∧ Kp (fun id => h.next ≤ id) h h') :=
 (zbt md m hk seed h).mono fun r h' ⟨N, b, q1, q2, q3, q4, q5, q6, q7, q8, _⟩ => ⟨N, b, q1, q2, q3, q4, q5, q6, q7, q8⟩
theorem zlt (md : Bool) (k : Int) (hk : isG k = false) (seed : Int) (h : AHeap) : AE Tryz.prog 15 [.int .i64 k, .int .u64 seed, .bool md] h (.tup [.nilp, .int .i64 1]) h := by
 refine AE.pureW zdg (by simp) ?_
 unfold z99; dsimp only [qQ, qR, qM, qG]
 (refine go ?_)
 refine WL.call rfl gM gSL (zl9 md k hk seed _) ?_
 (refine go ?_)
 refine WW.ret (PureQ.finD ?_)
 exact .clo _ (.tup _ fun v hv => by
  simp only [List.mem_cons, List.not_mem_nil, or_false] at hv
  rcases hv with rfl | rfl
  ·exact .nilp
  ·exact .int _ _)
theorem znr {h h1 : AHeap} (e : Int) : Fz h h1 (.agg [.int .i64 e, .nils]) (.agg [.int .i64 e, .nils]) := .clo _ (.agg _ fun v hv => by
 simp only [List.mem_cons, List.not_mem_nil, or_false] at hv
 rcases hv with rfl | rfl
 ·exact .int _ _
 ·exact .nils)
theorem zp3 {h : AHeap} {b : Nat} : AE Tryz.prog 16 [.ptr b 0 0, .agg [.int .i64 0, .int .i64 0, .int .i64 0, .nils, .int .i64 0, .int .i64 0, .nils, .nils]] h (.agg [.int .i64 1, .nils]) h := by
 refine AE.pureW z33 (by simp) ?_
 unfold z2f; dsimp only [qQ, qR, qM, qG]
 (refine go ?_)
 refine WW.ret (PureQ.finD ?_)
 exact znr _
theorem zlu {h : AHeap} {b : Nat} {w c : AV} (hb : h.get b = some (.mem 3 [[w, c, .nils]])) : AE Tryz.prog 16 [.ptr b 0 0, .agg [.int .i64 6, .int .i64 0, .int .i64 0, .nils, .int .i64 0, .int .i64 0, .nils, .nils]] h (.agg [.int .i64 1, .nils]) h := by
 refine AE.wf fun hwf => ?_
 have h0 := hwf _ _ hb
 have hB : ∀ h2 : AHeap, h2.get b = some (.mem 3 [[w, c, .nils]]) → AE Tryz.prog 56 [.ptr b 0 0, .int .i64 0] h2 (.int .i64 1) h2 := fun h2 hb2 => by
  refine AE.pureW zea (by simp) ?_
  unfold z76; dsimp only [qQ, qR, qM, qG]
  (refine go ?_)
  refine WW.ret (PureQ.finD ?_)
  exact fz_i rfl
 refine AE.pureW z33 (by simp) ?_
 unfold z2f; dsimp only [qQ, qR, qM, qG]
 (refine go ?_)
 refine WL.call rfl gM gSL (hB _ gH) ?_
 (refine go ?_)
 refine WW.ret (PureQ.finD ?_)
 exact znr _
end Go.Proofs.YthblcmnhiccnhaaGreat


namespace Go.Proofs.YthblcmnhiccnhaaGreat
open Go Go.Abs

set_option maxHeartbeats 1000000 in
theorem zh9 (h : AHeap) : AE Tryz.prog 17 [] h (.bool true) h := by
 refine AE.pureW zh7 (by simp) ?_
 unfold z9v; dsimp only [qQ, qR, qM, qG]
 (refine go ?_)
 refine WL.callA rfl gM gSL (zmv true 4 rfl 1 h) ?_
 rintro _ h1 ⟨N, b, rfl, g1, b1, hn, hN, hb, hnb, k1⟩
 (refine go ?_)
 refine WL.call rfl gM gSL (zlt true 3 rfl 1 _) ?_
 have hbg := b1.g
 simp only [boxO] at hbg
 (refine go ?_)
 refine WL.call rfl gM gSL (zlu hbg) ?_
 (refine go ?_)
 refine WL.call rfl gM gSL (zp3) ?_
 (refine go ?_)
 have k2 := k1.keeps (fun _ h => h)
 refine WW.ret (PureQ.finD ?_)
 exact fz_b rfl
theorem zto {row : List CS} {cells : List AV} (h : TypL (.sl [.b] :: row) cells) : ∃ (l : List Bool) (vs : List AV), cells = .imm 1 (l.map encBo) :: vs ∧ TypL row vs ∧ l.length ≤ maxLen := by
 obtain ⟨v, vs, rfl, h1, h2⟩ := h.cons_inv
 obtain ⟨c, rfl, hl, hc⟩ := h1.sl_inv
 obtain ⟨l, rfl⟩ := zpg (f := encBo) (fun cells => zq5) hc
 exact ⟨l, vs, rfl, h2, by simpa using hl⟩
end Go.Proofs.YthblcmnhiccnhaaGreat


namespace Go.Abs
open Go
section
variable {P : Program} {N : Nat} {e e' : Env} {h h' : AHeap} {l : List CI} {es : List (List Nat)} {Q : Exit → Env → AHeap → Prop}
def RunL (P : Program) (N : Nat) (Q : Exit → Env → AHeap → Prop) : List CI → Env → AHeap → Prop
 | [], e, h => Q .normal e h
 | c :: l, e, h => FXR P N c e h (fun r h2 => RunL P N Q l (putR c.d r e) h2)
theorem RunL.call {d : Option Nat} {f : Nat} {xs : List Opd} {g : Option (Nat × Bool)} {us vs : List AV} {R : AV → AHeap → Prop} (hv : evL e xs = some us) (hg : met e g) (hs : SubL us vs) (hac : AC P f vs h R) (k : ∀ r h', R r h' → RunL P N Q l (putR d (some r) e) h') : RunL P N Q (⟨d, .call f xs, g⟩ :: l) e h :=
 FXR.call hv hg hs hac k
theorem RunL.go {c : CI} (k : RunL P N Q l e' h') (hs : Stp c e h e' h' := by exact Stp.auto) : RunL P N Q (c :: l) e h :=
 FXR.stp hs fun r he => by subst he; exact k
theorem RunL.fx {c : CI} {r : Option AV} (hx : FX P N c e h r h') (k : RunL P N Q l (putR c.d r e) h') : RunL P N Q (c :: l) e h := FXR.of hx k
theorem RunL.endL (hq : Q .normal e h) : RunL P N Q [] e h := hq
theorem RunL.live (k : (∀ id x, h.get id = some x → h.used id) → RunL P N Q l e h) (hl : l ≠ []) : RunL P N Q l e h := by
 cases l with
 | nil => exact absurd rfl hl
 | cons c l => exact fun ops i o ho hc m w a K QQ hr he hk => (k hr.live) ops i o ho hc m w a K QQ hr he hk
inductive PW (P : Program) (N : Nat) (K : Env → AHeap → Prop) : List CI → Env → AHeap → Prop
 | nil {e : Env} {h : AHeap} (hk : K e h) : PW P N K [] e h
 | fx {c : CI} {l : List CI} {e : Env} {h : AHeap} {r : Option AV} (hx : FX P N c e h r h) (k : PW P N K l (putR c.d r e) h) : PW P N K (c :: l) e h
theorem PW.go {K : Env → AHeap → Prop} {c : CI} (k : PW P N K l e' h) (hs : Stp c e h e' h := by exact Stp.auto) : PW P N K (c :: l) e h := by
 obtain ⟨r, he, hx, _⟩ := FX.of_stp (P := P) (N := N) hs
 subst he
 exact .fx hx k
theorem PW.call {K : Env → AHeap → Prop} {d : Option Nat} {f : Nat} {xs : List Opd} {g : Option (Nat × Bool)} {us vs : List AV} {r : AV} (hv : evL e xs = some us) (hg : met e g) (hs : SubL us vs) (hac : AE P f vs h r h) (k : PW P N K l (putR d (some r) e) h) : PW P N K (⟨d, .call f xs, g⟩ :: l) e h :=
 .fx (FX.call hg hv (hac.sub hs)) k
theorem PW.trace {K : Env → AHeap → Prop} : ∀ {l : List CI} {e : Env} {h : AHeap}, PW P N K l e h → ∃ (ee : Nat → Env) (rr : Nat → Option AV), ee 0 = e ∧ K (ee l.length) h ∧ ∀ i, i < l.length → FX P N (l.getD i default) (ee i) h (rr i) h ∧ ee (i + 1) = putR (l.getD i default).d (rr i) (ee i) := by
 intro l e h hd
 induction hd with
 | @nil e h hk => exact ⟨fun _ => e, fun _ => none, rfl, hk, fun i hi => by simp at hi⟩
 | @fx c l e h r hx k ih =>
  obtain ⟨ee, rr, q1, q2, q3⟩ := ih
  refine ⟨fun i => match i with | 0 => e | i + 1 => ee i, fun i => match i with | 0 => r | i + 1 => rr i, rfl, q2, fun i hi => ?_⟩
  cases i with
  | zero => exact ⟨hx, q1⟩
  | succ i => exact q3 i (by simpa using hi)
def chkC (l : List CI) (es : List (List Nat)) (c : Nat) : Bool :=
 es.length == l.length && decide (c < l.length) && ((List.range l.length).all fun j => (es.getD j []).all (fun k => decide (k < j))) &&
 ((List.range c).all fun i => ((ancs es []).getD c 0).testBit i) && ((List.range l.length).all fun j => !decide (c < j) || ((ancs es []).getD j 0).testBit (j - 1)) &&
 ((List.range c).all fun j => (List.range j).all fun i => !touch l [] [] i j || ((ancs es []).getD j 0).testBit i)
theorem zlv {c : Nat → CI} {rr : Nat → Option AV} {D D' : Nat → Bool} {s : Nat} : ∀ n, (∀ k, k < n → (c k).d = some s → D' k = D k) → lk s (eD c rr e D' n) = lk s (eD c rr e D n)
 | 0, _ => rfl
 | n + 1, hk => by
  have ih := zlv (rr := rr) n fun k h1 => hk k (by omega)
  simp only [eD]
  by_cases hd : (c n).d = some s
  ·rw [hk n (by omega) hd]
   split
   ·rw [hd, zf, zf]
   ·exact ih
  ·have e1 : ∀ (b : Bool) (x : Env), lk s (if b = true then putR (c n).d (rr n) x else x) = lk s x := fun b x => by cases b <;> simp [z12 hd]
   rw [e1, e1]; exact ih
theorem ER.lkE {m : Inj} {w : World} {a : Act} {e1 e2 : Env} (he : ER N m h w e1 a) (hs : ∀ s, lk s e2 = lk s e1) : ER N m h w e2 a := ⟨he.size, he.defers, fun i v hv => he.val i v ((hs i).symm.trans hv)⟩
theorem FXR.lkE {c : CI} {e1 e2 : Env} {R : Option AV → AHeap → Prop} (hx : FXR P N c e1 h R) (hs : ∀ s, lk s e2 = lk s e1) : FXR P N c e2 h R := fun ops i o ho hc m w a K QQ hr he hk =>
 hx ops i o ho hc m w a K QQ hr (he.lkE fun s => (hs s).symm) fun m' w' a' r h' h1 h2 h3 h4 => hk m' w' a' r h' h1 h2 (h3.lkE (z2e hs)) h4
theorem WW.sub {c : CC} {Q' : Exit → Env → AHeap → Prop} (hw : WW P N c Q' e h) (hq : ∀ ex e h, Q' ex e h → ∃ e3, (∀ s, lk s e3 = lk s e) ∧ Q ex e3 h) : WW P N c Q e h :=
 ⟨fun code hc m w a hr he => wp_mono (hw.out code hc m w a hr he) fun ex a' w' ⟨m', e', h', g1, g2, g3, g4⟩ => by
  obtain ⟨e3, h1, h2⟩ := hq _ _ _ g4
  exact ⟨m', e3, h', g1, g2.lkE h1, g3, h2⟩⟩
theorem ztp {i j s : Nat} (h1 : (l.getD i default).d = some s) (h2 : (l.getD j default).d = some s) : touch l [] [] i j = true := by simp only [touch, h1, h2]; simp
theorem ztq {i j s : Nat} (h1 : (l.getD i default).d = some s) (h2 : s ∈ zt (l.getD j default)) : touch l [] [] i j = true := by
 simp only [touch, Bool.or_eq_true, List.any_eq_true]
 exact .inl (.inl (.inl ⟨s, h2, by rw [dslot, h1]; simp⟩))
theorem ztr {i j s : Nat} (h1 : (l.getD j default).d = some s) (h2 : s ∈ zt (l.getD i default)) : touch l [] [] i j = true := by
 simp only [touch, Bool.or_eq_true, List.any_eq_true]
 exact .inl (.inl (.inr ⟨s, h2, by rw [dslot, h1]; simp⟩))
theorem WW.dregC [MO P] (c : Nat) (hc : chkC l es c = true) (hwk : PW P N (fun e1 h1 => RunL P N Q (l.drop c) e1 h1) (l.take c) e h) : WW P N (.dreg l es) Q e h := by
 simp only [chkC, Bool.and_eq_true, beq_iff_eq, List.all_eq_true, List.mem_range, decide_eq_true_eq, Bool.or_eq_true, Bool.not_eq_true', decide_eq_false_iff_not] at hc
 obtain ⟨⟨⟨⟨⟨c1, c2⟩, c3⟩, c4⟩, c5⟩, c6⟩ := hc
 have anc : ∀ j i, ((ancs es []).getD j 0).testBit i = true → Reach es i j := zbz es es [] rfl (fun j i hb => by simp at hb)
 obtain ⟨ee, rr, t1, t2, t3⟩ := hwk.trace
 have hlen : (l.take c).length = c := by simp; omega
 rw [hlen] at t2 t3
 have hget : ∀ i, i < c → (l.take c).getD i default = l.getD i default := fun i hi => by
  simp [List.getD_eq_getElem?_getD, List.getElem?_take, hi]
 have t4 : ∀ i, i < c → FX P N (l.getD i default) (ee i) h (rr i) h ∧ ee (i + 1) = putR (l.getD i default).d (rr i) (ee i) := fun i hi => by
  have := t3 i hi
  rw [hget i hi] at this
  exact this
 refine WW.sub (Q' := fun ex e h => ∃ e3, (∀ s, lk s e3 = lk s e) ∧ Q ex e3 h) ?_ fun ex e h hh => hh
 refine WW.dregI (fun D e1 h1 => (D c = false ∧ (∀ j, D j = true → j < c) ∧ h1 = h ∧ ∀ s, lk s e1 = lk s (eD (fun j => l.getD j default) rr e D c)) ∨
  ∃ k e3, c < k ∧ k ≤ l.length ∧ (∀ j, D j = decide (j < k)) ∧ (∀ s, lk s e3 = lk s e1) ∧ RunL P N Q (l.drop k) e3 h1) (by
   simp only [Bool.and_eq_true, beq_iff_eq, List.all_eq_true, List.mem_range, decide_eq_true_eq]
   exact ⟨c1, c3⟩) (.inl ⟨rfl, (fun j hj => by cases hj), rfl, fun s => ?_⟩) ?_ ?_
 ·have := z2h (c := fun j => l.getD j default) (rr := rr) (e := e) (D := fun _ => false) (s := s) (i := 0) c (Nat.zero_le _) (fun _ _ _ _ => rfl)
  rw [this]; rfl
 ·intro D e1 h1 i hi hDi hpre hcl hlive hI
  have hdone : ∀ {a b : Nat}, Reach es a b → (∀ k ∈ es.getD b [], D k = true) → D a = true := fun hr hp => Reach.done hcl hr hp
  have hcl2 : ∀ {a b : Nat}, Reach es a b → D b = true → D a = true := fun hr hb => Reach.done hcl hr (hcl _ hb)
  rcases hI with ⟨i1, i2, i3, i4⟩ | ⟨k, e3, k1, k2, k3, k4, k5⟩
  ·rcases Nat.lt_trichotomy i c with hlt | rfl | hgt
   ·subst i3
    obtain ⟨f1, f2⟩ := t4 i hlt
    have hag : ∀ s ∈ zt (l.getD i default), lk s e1 = lk s (ee i) := fun s hs => by
     rw [i4 s, z2h (i := i) c (by omega) (fun k h2 h3 hd => ?_), z4q t1 (fun j hj => (t4 j (by omega)).2) i (Nat.le_refl _) (fun k hk hd => ?_)]
     ·have := c6 i hlt k hk
      rw [ztq hd hs] at this
      exact hdone (anc i k (by simpa using this)) hpre
     ·rcases Nat.eq_or_lt_of_le h2 with rfl | h2
      ·exact hDi
      ·cases hDk : D k with
       | false => rfl
       | true =>
        have := c6 k h3 i h2
        rw [ztr hd hs] at this
        have := hcl2 (anc k i (by simpa using this)) hDk
        rw [hDi] at this; cases this
    have hx : FXR P N (l.getD i default) e1 h1 (fun r h2 => r = rr i ∧ h2 = h1) := fun ops i' o ho hcc m w a K QQ hr he hk =>
     f1 ops i' o ho hcc e1 hag m w a K QQ hr he fun m' w' a' g1 g2 g3 => hk m' w' a' _ _ ⟨rfl, rfl⟩ g1 g2 g3
    refine fun ops i' o ho hcc m w a K QQ hr he hk => hx ops i' o ho hcc m w a K QQ hr he fun m' w' a' r h2 hR g1 g2 g3 => hk m' w' a' r h2 (fun _ => ?_) g1 g2 g3
    obtain ⟨rfl, rfl⟩ := hR
    refine .inl ⟨by show (if c = i then true else D c) = false; rw [if_neg (by omega)]; exact i1, fun j hj => ?_, rfl, fun s => ?_⟩
    ·by_cases hji : j = i
     ·omega
     ·exact i2 j (by simpa [hji] using hj)
    ·by_cases hd : (l.getD i default).d = some s
     ·have hlat : ∀ k, i + 1 ≤ k → k < c → (l.getD k default).d = some s → (if k = i then true else D k) = false := fun k h2 h3 hdk => by
       rw [if_neg (by omega)]
       cases hDk : D k with
       | false => rfl
       | true =>
        have := c6 k h3 i (by omega)
        rw [ztp hd hdk] at this
        have := hcl2 (anc k i (by simpa using this)) hDk
        rw [hDi] at this; cases this
      rw [z2h (c := fun j => l.getD j default) (i := i + 1) c (by omega) hlat]
      simp only [eD, if_true]
      rw [hd, zf, zf]
     ·rw [z12 hd, i4 s]
      refine (zlv c fun k hk hdk => ?_).symm
      have : k ≠ i := fun e => by subst e; exact hd hdk
      simp [this]
   ·subst i3
    have hall : ∀ j, j < i → D j = true := fun j hj => hdone (anc i j (c4 j hj)) hpre
    have hee : ∀ s, lk s e1 = lk s (ee i) := fun s => by
     rw [i4 s]
     exact z4q t1 (fun j hj => (t4 j hj).2) i (Nat.le_refl _) fun k hk _ => hall k hk
    rw [List.drop_eq_getElem_cons c2] at t2
    have hci : l[i] = l.getD i default := by simp [List.getD_eq_getElem?_getD, hi]
    rw [hci] at t2
    have hx : FXR P N (l.getD i default) (ee i) h1 (fun r h2 => RunL P N Q (l.drop (i + 1)) (putR (l.getD i default).d r (ee i)) h2) := t2
    refine fun ops i' o ho hcc m w a K QQ hr he hk => (hx.lkE hee) ops i' o ho hcc m w a K QQ hr he fun m' w' a' r h2 hR g1 g2 g3 => hk m' w' a' r h2 (fun _ => ?_) g1 g2 g3
    refine .inr ⟨i + 1, _, by omega, by omega, fun j => ?_, z2e fun s => (hee s).symm, hR⟩
    show (if j = i then true else D j) = _
    by_cases hj : j = i
    ·simp [hj]
    ·rw [if_neg hj]
     by_cases hj2 : j < i
     ·rw [hall j hj2]; simp; omega
     ·cases hDj : D j with
      | true => have := i2 j hDj; omega
      | false => simp; omega
   ·have hr : Reach es (i - 1) i := anc i (i - 1) ((c5 i hi).resolve_left (fun hh => hh hgt))
    have := hdone hr hpre
    have := i2 _ this
    omega
  ·have hik : i = k := by
    rcases Nat.lt_trichotomy i k with hlt | rfl | hgt
    ·rw [k3 i] at hDi; simp [hlt] at hDi
    ·rfl
    ·have hr : Reach es (i - 1) i := anc i (i - 1) ((c5 i hi).resolve_left (fun hh => hh (by omega)))
     have := hdone hr hpre
     rw [k3] at this
     simp at this; omega
   subst hik
   rw [List.drop_eq_getElem_cons hi] at k5
   have hci : l[i] = l.getD i default := by simp [List.getD_eq_getElem?_getD, hi]
   rw [hci] at k5
   have hx : FXR P N (l.getD i default) e3 h1 (fun r h2 => RunL P N Q (l.drop (i + 1)) (putR (l.getD i default).d r e3) h2) := k5
   refine fun ops i' o ho hcc m w a K QQ hr he hk => (hx.lkE fun s => (k4 s).symm) ops i' o ho hcc m w a K QQ hr he fun m' w' a' r h2 hR g1 g2 g3 => hk m' w' a' r h2 (fun _ => ?_) g1 g2 g3
   refine .inr ⟨i + 1, _, by omega, by omega, fun j => ?_, z2e k4, hR⟩
   show (if j = i then true else D j) = _
   by_cases hj : j = i
   ·simp [hj]
   ·rw [if_neg hj, k3 j]
    simp only [decide_eq_decide]
    omega
 ·intro D e1 h1 hall hI
  rcases hI with ⟨i1, _⟩ | ⟨k, e3, k1, k2, k3, k4, k5⟩
  ·rw [hall c c2] at i1; cases i1
  ·have hk : k = l.length := by
    by_cases hkl : k < l.length
    ·have := hall k hkl
     rw [k3 k] at this
     simp at this
    ·omega
   subst hk
   rw [List.drop_length] at k5
   exact ⟨e3, k4, k5⟩
theorem WL.fxr {c : CI} {R : Option AV → AHeap → Prop} (hx : FXR P N c e h R) (k : ∀ r h', R r h' → WL P N l Q (putR c.d r e) h') : WL P N (c :: l) Q e h := ⟨by
 intro ops idx hlt hl m w a hr he
 cases idx with
 | nil => simp at hl
 | cons i idx =>
  simp only [List.map_cons, List.cons.injEq] at hl
  obtain ⟨hc, hl⟩ := hl
  have hilt := hlt i (by simp)
  have ho : ops[i]? = some ops[i] := Array.getElem?_eq_getElem hilt
  have hget : ops.getD i default = ops[i] := by simp [hilt]
  rw [hget] at hc
  rw [wpOps_cons]
  refine hx ops i _ ho hc m w a _ _ hr he fun m' w' a' r h' hR h1 h2 h3 => ?_
  exact zu (fun _ _ _ hp => PA.from h3 hp) idx _ _ ((k r h' hR).out ops idx (fun j hj => hlt j (by simp [hj])) hl m' w' a' h1 h2)⟩
theorem FXR.callv {d : Option Nat} {f : Nat} {x : Opd} {xs : List Opd} {g : Option (Nat × Bool)} {us vs ts : List AV} {R : AV → AHeap → Prop} (hx : ev e x = some (.func (.func f) us ts)) (hv : evL e xs = some vs) (hg : met e g) (hb : z2d P f = true) (hac : AC P f (us ++ vs ++ ts) h R) : FXR P N ⟨d, .callv x xs, g⟩ e h (fun r h' => ∃ r1, r = some r1 ∧ R r1 h') := by
 intro ops i o ho hc m w a K QQ hr he hk
 rcases zw hc with ⟨hb1, hb2⟩ | ⟨hd, hdst, hcomp, hgd⟩
 ·simp at hb1
 ·obtain ⟨w1, w2⟩ := zo he hgd
  have hw : Region.wanted o (yielded ops a.tmps) = true := by
   cases g with
   | none => exact w1 rfl
   | some sb =>
    obtain ⟨s, b⟩ := sb
    rw [w2 s b b rfl hg]; simp
  simp only [wpOp, ho]
  rw [if_pos hw]
  left
  have hco := hcomp rfl
  obtain ⟨c, y, hop, hcal, hy, hxs⟩ := z3d hco
  obtain ⟨hl1, hl2⟩ := he.evalL hxs hv
  have hfv := he.eval hy hx
  generalize hcx : a.eval (.tmp y) = cx at hfv
  cases hfv with
  | func _ _ _ cs ds q1 q2 q3 q4 =>
   have hrun : (execOp a.eval o).run P w = .ok (.enter f (cs ++ c.args.map a.eval ++ ds)) w := by
    simp [execOp, hop, resolve, hcal, hcx, Deferred.ofValue, invoke, z19 hb]
   refine z2y hrun hr (by simp [q1, q2, hl1]) (fun j v hj => ?_) hac fun v w' m' r1 h1 g1 g2 g3 g4 => ?_
   ·rw [List.append_assoc] at hj
    simp only [Array.getD_eq_getD_getElem?]
    by_cases j1 : j < us.length
    ·rw [List.getElem?_append_left j1] at hj
     have := q3 j v hj
     rw [Array.append_assoc, Array.getElem?_append_left (by omega)]
     simpa [Array.getD_eq_getD_getElem?] using this
    ·rw [List.getElem?_append_right (by omega)] at hj
     rw [Array.append_assoc, Array.getElem?_append_right (by omega), ← q1]
     by_cases j2 : j - us.length < vs.length
     ·rw [List.getElem?_append_left j2] at hj
      have := hl2 _ v hj
      rw [Array.getElem?_append_left (by simp at hl1 ⊢; omega)]
      simpa [List.getD_eq_getElem?_getD] using this
     ·rw [List.getElem?_append_right (by omega)] at hj
      have := q4 _ v hj
      have hl1' : vs.length = c.args.size := by simpa using hl1
      rw [Array.getElem?_append_right (by simp; omega)]
      simpa [Array.getD_eq_getD_getElem?, hl1'] using this
   ·refine hk m' w' _ (some r1) h1 ⟨r1, rfl, g4⟩ g1 ?_ g3
    have hd' : d = o.dst := hd
    show ER N m' h1 w' (putR d (some r1) e) _
    rw [hd']
    exact (he.step g3).putR hdst g2
theorem FXR.inv {d : Option Nat} {f t : Nat} {s : String} {x : Opd} {xs : List Opd} {g : Option (Nat × Bool)} {v : AV} {vs : List AV} {R : AV → AHeap → Prop} (hx : ev e x = some (.iface t v)) (hv : evL e xs = some vs) (hg : met e g) (hm : methF P t s = some f) (hb : z2d P f = true) (hac : AC P f (v :: vs) h R) : FXR P N ⟨d, .raw (.inv s x xs), g⟩ e h (fun r h' => ∃ r1, r = some r1 ∧ R r1 h') := by
  intro ops i o ho hc m w a K QQ hr he hk
  have hraw := z6r hc rfl
  rcases zw hc with ⟨hb1, hb2⟩ | ⟨hd, hdst, _, hgd⟩
  · cases hb1
  · obtain ⟨w1, w2⟩ := zo he hgd
    have hw : Region.wanted o (yielded ops a.tmps) = true := by
      cases g with
      | none => exact w1 rfl
      | some sb =>
        obtain ⟨s2, b⟩ := sb
        rw [w2 s2 b b rfl hg]; simp
    simp only [wpOp, ho]
    rw [if_pos hw]
    left
    obtain ⟨c, y, hop, hcal, hy, hxs⟩ := zqm hraw
    obtain ⟨hl1, hl2⟩ := he.evalL hxs hv
    have hfv := he.eval hy hx
    generalize hcx : a.eval y = cx at hfv
    cases hfv with
    | iface _ _ cv q =>
      have hx1 : ∀ (u : Value) (X : Array Value), (#[u] ++ X)[0]? = some u := fun u X => by rw [Array.getElem?_append_left (by simp)]; rfl
      have hx2 : ∀ (u : Value) (X : Array Value), (#[u] ++ X).extract 1 (#[u] ++ X).size = X := fun u X => by
        apply Array.ext'
        simp
      have hx3 : P.types.size + Made.depth = (P.types.size + 99) + 1 := rfl
      have hrun : (execOp a.eval o).run P w = .ok (.enter f (#[cv] ++ c.args.map a.eval)) w := by
        simp only [execOp, hop, resolve, hcal, hcx, Sem.run_bind, Sem.run_pure, Result.andThen_ok, invoke, hx1, hx2, callMethod, run_program, hx3, zfv hm, z19 hb]
      refine z2y hrun hr (by have : vs.length = c.args.size := by simpa using hl1
                             simp; omega) (fun j v2 hj => ?_) hac fun v2 w' m' r1 h1 g1 g2 g3 g4 => ?_
      · simp only [Array.getD_eq_getD_getElem?]
        rcases j with _ | j
        · cases hj
          rw [hx1]
          exact q
        · have := hl2 j v2 (by simpa using hj)
          rw [Array.getElem?_append_right (by simp)]
          simpa [List.getD_eq_getElem?_getD] using this
      · refine hk m' w' _ (some r1) h1 ⟨r1, rfl, g4⟩ g1 ?_ g3
        have hd' : d = o.dst := hd
        show ER N m' h1 w' (putR d (some r1) e) _
        rw [hd']
        exact (he.step g3).putR hdst g2
theorem AC.cvt {f : Nat} {vs : List AV} {R : AV → AHeap → Prop} (hc : Cvt [] h [] h') (hac : AC P f vs h' R) : AC P f vs h R := fun m w cargs hr hl hv => by
 obtain ⟨m1, r1, _, s1⟩ := hc 0 m w ⟨#[], []⟩ hr ⟨rfl, rfl, fun i v hi => by simp [z1k] at hi⟩
 refine (hac m1 w cargs r1 hl fun i v hi => (hv i v hi).step s1).mono fun ex w' ⟨v, m', r, h2, e1, g1, g2, g3, hR⟩ => ⟨v, m', r, h2, e1, g1, g2, s1.trans g3, hR⟩
end
end Go.Abs


namespace Go.Proofs.YthblcmnhiccnhaaGreat
open Go Go.Abs

def CaN.frz (n : CaN) : CaN := { n with nE := n.c }
theorem Kp.cvt {W : Nat → Prop} {h h' : AHeap} (h1 : h'.next = h.next) (h2 : h'.gap = h.gap) (h3 : ∀ id, ¬ W id → h'.get id = h.get id) : Kp W h h' :=
 ⟨by omega, fun id hu => by unfold AHeap.used at hu ⊢; rw [h1, h2]; exact hu, fun id _ hw => h3 id hw⟩
theorem CaG.frz {md : Bool} {h : AHeap} {n : CaN} {x : CaS} (hg : CaG md h n x) : ∃ h', Cvt [] h [] h' ∧ CaG md h' n.frz x ∧ BoxAt h' n.c (.mem 6 [[.ptr (n.w.a + 10) 0 0, .ptr n.k 0 0, .imm 8 (x.now.map encL), .imm 8 (x.was.map encL), .ptr n.a 0 0, .bool x.bad]]) ∧ Kp n.own h h' := by
 obtain ⟨g1, g2, ⟨v, g3, g4⟩, g5, g6, g8, g7⟩ := hg
 obtain ⟨d1, d2, d3, d4, d5, d6, d7, d8, d9⟩ := g7
 have hown : ∀ id, n.frz.own id → n.own id := fun id hi => by
  rcases hi with rfl | rfl | rfl | rfl | rfl | rfl
  ·exact .inl rfl
  ·exact .inr (.inl rfl)
  ·exact .inr (.inr (.inl rfl))
  ·exact .inr (.inr (.inr (.inl rfl)))
  ·exact .inl rfl
  ·exact .inr (.inr (.inr (.inr (.inr rfl))))
 have hsc : n.sE ≠ n.c := by rcases d8 with h | h <;> omega
 rcases g3 with rfl | ⟨rfl, hE⟩
 ·exact ⟨h, Cvt.refl, ⟨g1, g2, ⟨_, .inl rfl, g4⟩, g5, fun id hi => g6 id (hown id hi), fun id hi => g8 id (hown id hi), ⟨d1, d2, d3, d4, d5, d6, .inl rfl, d8, fun e => hsc e.symm⟩⟩, g4, Kp.refl⟩
 ·have hcE : n.c ≠ n.nE := fun e => by
   have q1 := g4.g
   have q2 := hE.g
   rw [e, q2] at q1
   simp at q1
  have hc := Cvt.frzM (e := []) g4.g (i := 0) (j := 2) rfl rfl hE.g (by simp) hcE
  have kp : Kp (fun id => id = n.c ∨ id = n.nE) h ((h.set n.nE none).set n.c (some (.mem 6 [[.ptr (n.w.a + 10) 0 0, .ptr n.k 0 0, .imm 8 (x.now.map encL), .imm 8 (x.was.map encL), .ptr n.a 0 0, .bool x.bad]]))) :=
   Kp.cvt rfl rfl fun id hi => by
    rw [not_or] at hi
    exact z1 hi.1 (z1 hi.2 rfl)
  have hkE : n.k ≠ n.nE := by rcases d7 with h | h <;> omega
  have haE : n.a ≠ n.nE := by rcases d7 with h | h <;> omega
  have hqE : n.q ≠ n.nE := by rcases d7 with h | h <;> omega
  have hB : BoxAt ((h.set n.nE none).set n.c (some (.mem 6 [[.ptr (n.w.a + 10) 0 0, .ptr n.k 0 0, .imm 8 (x.now.map encL), .imm 8 (x.was.map encL), .ptr n.a 0 0, .bool x.bad]]))) n.c (.mem 6 [[.ptr (n.w.a + 10) 0 0, .ptr n.k 0 0, .imm 8 (x.now.map encL), .imm 8 (x.was.map encL), .ptr n.a 0 0, .bool x.bad]]) :=
   ⟨kp.us _ g4.u, zb⟩
  refine ⟨_, hc, ⟨g1.kp kp fun id hi hh => ?_, g2.kp kp (by omega), ⟨_, .inl rfl, hB⟩, g5.kp kp (by omega) (by omega) (by omega), fun id hi => g6 id (hown id hi), fun id hi => Nat.lt_of_lt_of_le (g8 id (hown id hi)) kp.next, ⟨d1, d2, d3, d4, d5, d6, .inl rfl, d8, fun e => hsc e.symm⟩⟩, hB, kp.mono fun id _ hi => hi.elim .inl fun e => .inr (.inr (.inr (.inr (.inl e))))⟩
  rcases hh with rfl | rfl
  ·exact g6 _ (.inl rfl) hi
  ·exact g6 _ (.inr (.inr (.inr (.inr (.inl rfl))))) hi
def CaS.comE (md : Bool) (x : CaS) : Int := (x.s.doC md x.boot x.j x.now).1
def CaS.com (md : Bool) (x : CaS) : CaS := { x with s := (x.s.doC md x.boot x.j x.now).2.1, j := (x.s.doC md x.boot x.j x.now).2.2, was := if x.comE md = 0 then x.now else x.was }
structure CaOk (md : Bool) (x : CaS) (k : Nat) : Prop where
 st : WSt md x.s k
 b : 0 ≤ x.boot ∧ x.boot < 4294967296
 j : x.j ≤ 100
 l : (x.now.length : Int) = x.s.n
 w : ∀ y ∈ x.now, y.Wf
 ok : lvOk x.now 0 = true
set_option maxHeartbeats 4000000 in
theorem zfz {md : Bool} {h : AHeap} {n : CaN} {x : CaS} {k : Nat} (hg : CaG md h n x) (hx : CaOk md x k) (hk : k ≤ 80000) :
  AC Tryz.prog 138 [.ptr n.c 0 0] h (fun r h' => r = .int .i64 (x.comE md) ∧ CaG md h' n.frz (x.com md) ∧ Kp (fun id => n.w.own md id ∨ n.own id) h h') := by
 obtain ⟨h0, hcv, g0, b0, k0⟩ := hg.frz
 refine AC.cvt hcv ?_
 have kO : ∀ id, n.frz.own id → n.own id := fun id hi => by
  rcases hi with rfl | rfl | rfl | rfl | rfl | rfl
  ·exact .inl rfl
  ·exact .inr (.inl rfl)
  ·exact .inr (.inr (.inl rfl))
  ·exact .inr (.inr (.inr (.inl rfl)))
  ·exact .inl rfl
  ·exact .inr (.inr (.inr (.inr (.inr rfl))))
 have hnm := hg.nm
 have k0' : Kp (fun id => n.w.own md id ∨ n.own id) h h0 := k0.mono fun _ _ hi => .inr hi
 clear hcv k0 hg
 have hgg := z2 hx.st.fit.g
 have hll := hx.l
 refine AC.introW z8h (by simp) ?_
 unfold z46; dsimp only [qQ, qR, qM, qG]
 have hc := b0.g
 (repeat first | refine WL.go ?_ | refine WW.seq ?_ | refine WW.reg ?_ | refine WL.nil ?_ | refine WW.skip ?_ | refine WW.block ?_ | refine WW.exit ?_ | refine WW.condT rfl ?_ | refine WW.condF rfl ?_ | refine WL.gox ?_ | refine thenN ?_ | refine blkN ?_)
 refine WW.dregC 12 (by decide +kernel) ?_
 (repeat first | refine PW.go ?_ | refine PW.nil ?_)
 refine RunL.call rfl gM gSL (zlr g0.w hx.st hk g0.mr hx.b hx.j (g0.nm _ (.inr (.inl rfl))) x.now hx.l hx.w hx.ok) ?_
 rintro _ h1 ⟨rfl, g1, b1, k1⟩
 obtain ⟨d1, d2, d3, d4, d5, d6, d7, d8, d9⟩ := g0.dj
 have hno : ∀ id, n.own id → id ≠ n.k → ¬ (n.frz.w.own md id ∨ id = n.frz.k) := fun id hi hk hh => by
  rcases hh with hh | hh
  ·exact hnm id hi (.inl (WN.own_all hh))
  ·exact hk hh
 have c1 := b0.kp k1 (hno _ (.inl rfl) d1)
 have hsk : n.sE ≠ n.k := by rcases d8 with h | h <;> dsimp only [CaN.frz] at h d5 <;> omega
 have a1 := g0.ag.kp k1 (hno _ (.inr (.inr (.inl rfl))) (fun e => d4 e.symm)) (hno _ (.inr (.inr (.inr (.inl rfl)))) (fun e => d5 e.symm)) (hno _ (.inr (.inr (.inr (.inr (.inr rfl))))) hsk)
 have k2 := k0'.trans (k1.mono fun id _ hh => hh.elim .inl fun e => .inr (.inr (.inl e)))
 have hc1 := c1.g
 have hl1 : ∀ id, n.frz.own id → id < h1.next := fun id hi => Nat.lt_of_lt_of_le (g0.lt id hi) k1.next
 clear b0 k1 k0'
 (repeat first | refine RunL.go ?_ | refine RunL.endL ?_ | refine thenN ?_ | refine blkN ?_)
 cases hz : decide ((x.s.doC md x.boot x.j x.now).1 = 0) with
 | true =>
  have h0 : x.comE md = 0 := of_decide_eq_true hz
  rw [show (x.s.doC md x.boot x.j x.now).1 = 0 from h0]
  (refine go ?_)
  refine WL.call rfl gM gSL (z6o x.now (by omega) _) ?_
  (refine go ?_)
  have kp : Kp (fun id => id = n.c) h1 (h1.set n.c (some (.mem 6 [[.ptr (n.w.a + 10) 0 0, .ptr n.k 0 0, .imm 8 (x.now.map encL), .imm 8 (x.now.map encL), .ptr n.a 0 0, .bool x.bad]]))) := Kp.cvt rfl rfl fun id hi => z1 hi rfl
  refine WW.ret ⟨.inl rfl, _, gRES, by rw [h0]; rfl, ⟨g1.kp kp fun id hi e => hnm n.c (.inl rfl) (e ▸ hi), b1.kp kp (fun e => d1 e.symm), ⟨_, .inl rfl, kp.us _ c1.u, ?_⟩, a1.kp kp (fun e => d2 e.symm) (fun e => d3 e.symm) (fun e => by rcases d8 with h | h <;> dsimp only [CaN.frz] at * <;> omega), g0.nm, fun id hi => Nat.lt_of_lt_of_le (hl1 id hi) kp.next, g0.dj⟩, k2.trans (kp.mono fun id _ e => .inr (.inl e))⟩
  have e1 : (x.com md).was = x.now := by simp only [CaS.com, h0, if_true]
  rw [e1]
  exact zb
 | false =>
  have h0 : ¬ x.comE md = 0 := of_decide_eq_false hz
  have h0' : ¬ (x.s.doC md x.boot x.j x.now).1 = 0 := h0
  (refine go ?_)
  (refine WW.ifB rfl (fun hz1 => ?_) (fun hz1 => ?_))
  ·exact absurd hz1 h0'
  (refine go ?_)
  refine WW.ret ⟨.inl rfl, _, gRES, rfl, ⟨g1, b1, ⟨_, .inl rfl, ?_⟩, a1, g0.nm, hl1, g0.dj⟩, k2⟩
  have e1 : (x.com md).was = x.was := by simp only [CaS.com, h0, if_false]
  rw [e1]
  exact c1
end Go.Proofs.YthblcmnhiccnhaaGreat


namespace Go.Proofs.YthblcmnhiccnhaaGreat
open Go Go.Abs

theorem z8k (n : Int) (h : AHeap) : AE Tryz.prog 130 [.int .i64 n] h (.bool (decide (0 ≤ n) && decide (n < 32))) h := by
 refine AE.pureW zh8 (by simp) ?_
 unfold z9x; dsimp only [qQ, qR, qM, qG]
 (refine go ?_)
 (apply WL.andB; exact rfl; exact rfl; exact rfl; exact BP.of; intro hz1)
 ·(repeat first | (apply GW.goS; exact Stp.auto) | apply GW.nil | exact rfl)
 (refine go ?_)
 refine WW.ret (PureQ.finD ?_)
 exact fz_b (by simp)
theorem zlw (k : Int) (hk : k = 3 ∨ k = 5) (lba : Int) (u : AV) (hu : u = .nils ∨ ∃ c, u = .imm 1 c) (h : AHeap) : AE Tryz.prog 80 [.agg [.int .i64 k, .int .i64 lba, u]] h (.bool true) h := by
 rcases hk with rfl | rfl <;> rcases hu with rfl | ⟨c, rfl⟩
 all_goals
  refine AE.pureW z7l (by simp) ?_
  unfold z5t; dsimp only [qQ, qR, qM, qG]
  (refine go ?_)
  refine WW.ret (PureQ.finD ?_)
  exact fz_b rfl
theorem zlx (k : Int) (hk : k = 1 ∨ k = 4) (lba : Int) (u : AV) (hu : u = .nils ∨ ∃ c, u = .imm 1 c) (h : AHeap) : AE Tryz.prog 80 [.agg [.int .i64 k, .int .i64 lba, u]] h (.bool (decide (0 ≤ lba) && decide (lba < 32))) h := by
 rcases hk with rfl | rfl <;> rcases hu with rfl | ⟨c, rfl⟩
 all_goals
  refine AE.pureW z7l (by simp) ?_
  unfold z5t; dsimp only [qQ, qR, qM, qG]
  (refine go ?_)
  refine WL.call rfl gM gSL (z8k _ _) ?_
  (refine go ?_)
  refine WW.ret (PureQ.finD ?_)
  exact fz_b rfl
theorem zly (lba : Int) (c : List (List AV)) (hc : c.length = 32) (hl : (decide (0 ≤ lba) && decide (lba < 32)) = true) (h : AHeap) : AE Tryz.prog 80 [.agg [.int .i64 2, .int .i64 lba, .imm 1 c]] h (.bool true) h := by
 refine AE.pureW z7l (by simp) ?_
 unfold z5t; dsimp only [qQ, qR, qM, qG]
 (refine go ?_)
 refine WL.call rfl gM gSL (z8k _ _) ?_
 rw [hl]
 (refine go ?_)
 refine WW.ret (PureQ.finD ?_)
 exact fz_b (by rw [hc]; rfl)
structure CaMv (md : Bool) (h : AHeap) (n n' : CaN) : Prop where
 o : ∀ id, n'.own id → n.own id ∨ h.next ≤ id
 w : ∀ id, n'.w.nm md id → n.w.nm md id ∨ h.next ≤ id
 c : n'.c = n.c
 a : n'.w.a = n.w.a
def CaR (md : Bool) (h : AHeap) (n : CaN) (Post : Int → AV → CaS → Prop) (r : AV) (h' : AHeap) : Prop :=
 ∃ n' x' e v, r = .agg [.int .i64 e, v] ∧ (v = .nils ∨ ∃ c, v = .imm 1 c) ∧ Post e v x' ∧ CaG md h' n' x' ∧ CaMv md h n n' ∧ Kp (fun id => n.w.own md id ∨ n.own id) h h'
theorem CaMv.refl {md : Bool} {h : AHeap} {n : CaN} : CaMv md h n n := ⟨fun _ => .inl, fun _ => .inl, rfl, rfl⟩
theorem CaMv.frz {md : Bool} {h : AHeap} {n : CaN} : CaMv md h n n.frz := ⟨fun id hi => by
 rcases hi with rfl | rfl | rfl | rfl | rfl | rfl
 ·exact .inl (.inl rfl)
 ·exact .inl (.inr (.inl rfl))
 ·exact .inl (.inr (.inr (.inl rfl)))
 ·exact .inl (.inr (.inr (.inr (.inl rfl))))
 ·exact .inl (.inl rfl)
 ·exact .inl (.inr (.inr (.inr (.inr (.inr rfl))))), fun _ => .inl, rfl, rfl⟩
theorem CaMv.le {md : Bool} {h h2 : AHeap} {n n' : CaN} (hm : CaMv md h2 n n') (hx : h.next ≤ h2.next) : CaMv md h n n' := ⟨fun id hi => (hm.o id hi).imp (fun q => q) (Nat.le_trans hx), fun id hi => (hm.w id hi).imp (fun q => q) (Nat.le_trans hx), hm.c, hm.a⟩
def methC (k : Int) : Nat := if k = 1 then 81 else if k = 2 then 82 else if k = 3 then 83 else if k = 4 then 84 else 85
def tabC : List (AV × AV) := [(.int .i64 1, .func (.func 81) [] []), (.int .i64 2, .func (.func 82) [] []), (.int .i64 3, .func (.func 83) [] []), (.int .i64 4, .func (.func 84) [] []), (.int .i64 5, .func (.func 85) [] [])]
theorem zqn {k : Int} (hk : k = 1 ∨ k = 2 ∨ k = 3 ∨ k = 4 ∨ k = 5) : ∃ ti, findA (.int .i64 k) tabC 0 = some (some (ti, .func (.func (methC k)) [] [])) := by
 rcases hk with rfl | rfl | rfl | rfl | rfl <;> exact ⟨_, rfl⟩
theorem zp4 {k : Int} (hk : k = 1 ∨ k = 2 ∨ k = 3 ∨ k = 4 ∨ k = 5) : z2d Tryz.prog (methC k) = true := by
 rcases hk with rfl | rfl | rfl | rfl | rfl <;> kernel_rfl
set_option maxHeartbeats 4000000 in
theorem z7n {md : Bool} {h : AHeap} {n : CaN} {x : CaS} {Post : Int → AV → CaS → Prop} (hg : CaG md h n x) (hgo : x.s.pw.gone = false) (hb : x.bad = false) (k lba : Int) (u : AV) (hu : u = .nils ∨ ∃ c, u = .imm 1 c) (hk : k = 1 ∨ k = 2 ∨ k = 3 ∨ k = 4 ∨ k = 5)
  (hIs : ∀ h2, AE Tryz.prog 80 [.agg [.int .i64 k, .int .i64 lba, u]] h2 (.bool true) h2)
  (hac : ∀ h2, Kp (fun _ => False) h h2 → CaG md h2 n x → AC Tryz.prog (methC k) [.ptr n.c 0 0, .agg [.int .i64 k, .int .i64 lba, u]] h2 (CaR md h2 n Post)) :
  AC Tryz.prog 25 [.ptr n.c 0 0, .agg [.int .i64 k, .int .i64 lba, u]] h (CaR md h n Post) := by
 refine AC.introW zcm (by simp) ?_
 unfold z6i; dsimp only [qQ, qR, qM, qG]
 have hgg := hg
 obtain ⟨g1, g2, ⟨v, g3, g4⟩, g5, g6, g8, g7⟩ := hg
 have hc := g4.g
 rw [hb] at hc
 have hob := g1.w.w
 simp only [wRow] at hob
 have husc : u.scalar = true := by rcases hu with rfl | ⟨c, rfl⟩ <;> rfl
 have hna : n.w.a + 11 ≤ h.next := g1.w.nx
 have hnc := g8 n.c (.inl rfl)
 have hpw : h.get n.w.p = some (.mem 4 [x.s.pw.row]) := g1.w.sd.pw
 have hpl : n.w.p < h.next := by have := g1.w.op; omega
 have hnil : ∀ h2 : AHeap, Kp (fun _ => False) h h2 → CaG md h2 n x := fun h2 k2 => hgg.new k2
 rcases hu with rfl | ⟨c, rfl⟩
 all_goals
  (refine go ?_)
  refine WL.call rfl gM gSL (z21 (p := n.w.p) (s := x.s.pw) gH) ?_
  rw [hgo]
  (refine go ?_)
  refine WL.call rfl gM gSL (hIs _) ?_
  (refine go ?_)
  iterate 5 refine WL.fx0 (FX.mput (r := none) rfl rfl rfl gH trivial rfl gM) ?_
  (refine go ?_)
  obtain ⟨ti, htab⟩ := zqn hk
  refine WL.fx1 (FX.look (es := tabC) rfl rfl gH trivial htab rfl gM) ?_
  simp only [lookR, Option.map_some, Option.getD_some]
  clear htab
  (repeat first | refine WW.seq ?_ | refine WW.reg ?_ | refine WL.nil ?_ | refine WW.skip ?_ | refine WW.block ?_ | refine thenN ?_ | refine blkN ?_); iterate 2 (refine WL.go ?_)
  refine WL.live fun hl => ?_
  refine WL.cut (fun e2 h2 => subE [(4, some (.ptr (h.next + 1) 0 0)), (37, some (.func (.func (methC k)) [] [])), (38, some (.ptr n.c 0 0)), (39, some (.agg [.int .i64 k, .int .i64 lba, _]))] e2 ∧ Kp (fun _ => False) h h2 ∧ BoxAt h2 (h.next + 1) (.mem 2 [[.int .i64 0, .nils]])) ⟨gSUB, (by repeat first | exact Kp.refl | assumption | with_reducible refine Kp.put ?_ (by omega) _ | with_reducible refine Kp.setN ?_ (by omega) _ | with_reducible refine Kp.keep ?_ _ | with_reducible refine Kp.setW ?_ (by rfl) _), hl _ _ gH, gH⟩ ?_
  clear hl hIs
  rintro e2 h2 ⟨l1, k2, b2⟩
  refine WL.cvt (Cvt.sub l1) ?_
  have hx2 := b2.u.1
  refine WL.fxr (FXR.callv rfl rfl gM (zp4 hk) (hac h2 k2 (hnil _ k2))) ?_
  rintro _ h5 ⟨_, rfl, n', x', e', v', rfl, hsc, hP, g', mv, k'⟩
  have b5 := b2.kp k' (fun hh => by
   rcases hh with hh | hh
   ·have := (g1.us _ (.inl (WN.own_all hh))).1; omega
   ·have := g8 _ hh; omega)
  have hb5 := b5.g
  have hx5 := k'.next
  have kt : Kp (fun id => id = h.next + 1) h5 (h5.set (h.next + 1) (some (.mem 2 [[.int .i64 e', v']]))) := Kp.cvt rfl rfl fun id hi => z1 hi rfl
  have hfin : CaR md h n Post (.agg [.int .i64 e', v']) (h5.set (h.next + 1) (some (.mem 2 [[.int .i64 e', v']]))) := by
   refine ⟨n', x', e', v', rfl, hsc, hP, g'.kp kt (fun id hi hh => ?_) (fun id hi hh => ?_), mv.le k2.next, ?_⟩
   ·rcases mv.w id hi with h6 | h6
    ·have := (g1.us _ h6).1; omega
    ·omega
   ·rcases mv.o id hi with h6 | h6
    ·have := g8 _ h6; omega
    ·omega
   ·exact ((k2.mono fun _ _ h => h.elim).trans k').trans2 kt fun id hi => .inr (by omega)
  rcases hsc with rfl | ⟨c2, rfl⟩
  ·(refine go ?_)
   exact WW.ret ⟨.inl rfl, [.agg [.int .i64 e', _]], gRES, hfin⟩
  ·(refine go ?_)
   exact WW.ret ⟨.inl rfl, [.agg [.int .i64 e', _]], gRES, hfin⟩
end Go.Proofs.YthblcmnhiccnhaaGreat


namespace Go.Proofs.YthblcmnhiccnhaaGreat
open Go Go.Abs

def zg0 (md : Bool) (s : WS) : CaS := ⟨s.bootS.loadS md, s.ct.boots + 1, 0, s.bootS.loadL md, s.bootS.loadL md, ag0, false⟩
end Go.Proofs.YthblcmnhiccnhaaGreat


namespace Go.Proofs.YthblcmnhiccnhaaGreat
open Go Go.Abs

section
variable {md : Bool} {h h2 h5 : AHeap} {n : CaN} {x : CaS} {Post : Int → AV → CaS → Prop} {T : Nat} {e : Int} {v : AV}
theorem CaG.out (hg : CaG md h n x) {id : Nat} (hi : n.w.own md id ∨ n.own id) : id < h.next := hi.elim (fun hh => (hg.w.us _ (.inl (WN.own_all hh))).1) (hg.lt id)
theorem CaR.keep {r : AV} (hr : CaR md h2 n Post r h5) {id : Nat} {X : AObj} (hb : BoxAt h2 id X) (h1 : ¬ n.w.nm md id) (h3 : ¬ n.own id) : BoxAt h5 id X := by
 obtain ⟨n', x', e', v', _, _, _, _, _, k⟩ := hr
 exact hb.kp k fun hh => hh.elim (fun q => h1 (.inl (WN.own_all q))) h3
theorem CaR.cell {r : AV} (hg : CaG md h n x) (k2 : Kp (fun _ => False) h h2) (hT : h.next ≤ T) (hT2 : T < h2.next) (hr : CaR md h2 n Post r h5) (Y : AObj) : CaR md h n Post r (h5.set T (some Y)) := by
 obtain ⟨n', x', e', v', rfl, hsc, hP, g', mv, k'⟩ := hr
 have kt : Kp (fun id => id = T) h5 (h5.set T (some Y)) := Kp.cvt rfl rfl fun id hi => z1 hi rfl
 refine ⟨n', x', e', v', rfl, hsc, hP, g'.kp kt (fun id hi hh => ?_) (fun id hi hh => ?_), mv.le k2.next, ?_⟩
 ·rcases mv.w id hi with h6 | h6
  ·have := (hg.w.us _ h6).1; omega
  ·omega
 ·rcases mv.o id hi with h6 | h6
  ·have := hg.lt _ h6; omega
  ·omega
 ·exact ((k2.mono fun _ _ h => h.elim).trans k').trans2 kt fun id hi => .inr (by omega)
end
set_option maxHeartbeats 4000000 in
theorem zmw {md : Bool} {h : AHeap} {n : CaN} {x : CaS} {Post : Int → AV → CaS → Prop} {b w : Nat} {sv : AV} (hg : CaG md h n x) (hbx : BoxAt h b (boxO w (.ptr n.c 0 0) sv)) (k lba : Int) (u : AV) (hu : u = .nils ∨ ∃ c, u = .imm 1 c)
  (hac : ∀ h2, Kp (fun _ => False) h h2 → CaG md h2 n x → AC Tryz.prog 25 [.ptr n.c 0 0, .agg [.int .i64 k, .int .i64 lba, u]] h2 (CaR md h2 n Post)) :
  AC Tryz.prog 54 [.ptr b 0 0, .agg [.int .i64 k, .int .i64 lba, u]] h (CaR md h n Post) := by
 refine AC.introW ze9 (by simp) ?_
 unfold z75; dsimp only [qQ, qR, qM, qG]
 have hb := hbx.g
 simp only [boxO] at hb
 have hbl := hbx.u.1
 have hcl := hg.lt n.c (.inl rfl)
 rcases hu with rfl | ⟨c, rfl⟩
 all_goals
  (repeat first | refine WL.go ?_ | refine WW.seq ?_ | refine WW.reg ?_ | refine WL.nil ?_ | refine WW.skip ?_ | refine WW.block ?_ | refine WW.exit ?_ | refine WW.condT rfl ?_ | refine WW.condF rfl ?_ | refine WL.gox ?_ | refine thenN ?_ | refine blkN ?_)
  refine WW.live fun hl => ?_
  refine WW.dregC 5 (by decide +kernel) ?_
  (repeat first | refine PW.go ?_ | refine PW.nil ?_)
  refine RunL.call rfl gM gSL (hac _ (by repeat first | exact Kp.refl | assumption | with_reducible refine Kp.put ?_ (by omega) _ | with_reducible refine Kp.setN ?_ (by omega) _ | with_reducible refine Kp.keep ?_ _ | with_reducible refine Kp.setW ?_ (by rfl) _) (hg.new (by repeat first | exact Kp.refl | assumption | with_reducible refine Kp.put ?_ (by omega) _ | with_reducible refine Kp.setN ?_ (by omega) _ | with_reducible refine Kp.keep ?_ _ | with_reducible refine Kp.setW ?_ (by rfl) _))) ?_
  intro r h5 hr
  have b5 := (hr.keep ⟨hl (h.next + 1) (.mem 2 [[.int .i64 0, .nils]]) gH, gH⟩ (fun q => by have := (hg.w.us _ q).1; omega) (fun q => by have := hg.lt _ q; omega)).g
  have hR := fun Y => CaR.cell (T := h.next + 1) hg (by repeat first | exact Kp.refl | assumption | with_reducible refine Kp.put ?_ (by omega) _ | with_reducible refine Kp.setN ?_ (by omega) _ | with_reducible refine Kp.keep ?_ _ | with_reducible refine Kp.setW ?_ (by rfl) _) (by omega) (ltN gN (by omega)) hr Y
  clear hl
  obtain ⟨_, _, e', v', rfl, hsc, _⟩ := hr
  rcases hsc with rfl | ⟨c2, rfl⟩
  all_goals
   (repeat first | refine RunL.go ?_ | refine RunL.endL ?_ | refine thenN ?_ | refine blkN ?_)
   exact WW.ret ⟨.inl rfl, [.agg [.int .i64 e', _]], gRES, hR _⟩
set_option maxHeartbeats 4000000 in
theorem z5f {md : Bool} {h : AHeap} {n : CaN} {x : CaS} {Post : Int → AV → CaS → Prop} {b w : Nat} {sv : AV} (hg : CaG md h n x) (hbx : BoxAt h b (boxO w (.ptr n.c 0 0) sv)) (k lba : Int) (u : AV) (hu : u = .nils ∨ ∃ c, u = .imm 1 c)
  (hac : ∀ h2, Kp (fun _ => False) h h2 → CaG md h2 n x → AC Tryz.prog 25 [.ptr n.c 0 0, .agg [.int .i64 k, .int .i64 lba, u]] h2 (CaR md h2 n Post)) :
  AC Tryz.prog 16 [.ptr b 0 0, .agg [.int .i64 1, .int .i64 k, .int .i64 lba, u, .int .i64 0, .int .i64 0, .nils, .nils]] h (CaR md h n Post) := by
 refine AC.introW z33 (by simp) ?_
 unfold z2f; dsimp only [qQ, qR, qM, qG]
 rcases hu with rfl | ⟨c, rfl⟩
 all_goals
  (refine go ?_)
  refine WL.live fun hl => ?_
  have hb2 : ∀ h2, Kp (fun _ => False) h h2 → BoxAt h2 b (boxO w (.ptr n.c 0 0) sv) := fun h2 k2 => hbx.kp k2 (fun h => h)
  refine WL.callA rfl gM gSL (zmw (hg.new (n := n) (by repeat first | exact Kp.refl | assumption | with_reducible refine Kp.put ?_ (by omega) _ | with_reducible refine Kp.setN ?_ (by omega) _ | with_reducible refine Kp.keep ?_ _ | with_reducible refine Kp.setW ?_ (by rfl) _)) (hb2 _ (by repeat first | exact Kp.refl | assumption | with_reducible refine Kp.put ?_ (by omega) _ | with_reducible refine Kp.setN ?_ (by omega) _ | with_reducible refine Kp.keep ?_ _ | with_reducible refine Kp.setW ?_ (by rfl) _)) k lba _ (by first | exact .inl rfl | exact .inr ⟨_, rfl⟩) (fun h3 k3 g3 => hac h3 (Kp.trans (by repeat first | exact Kp.refl | assumption | with_reducible refine Kp.put ?_ (by omega) _ | with_reducible refine Kp.setN ?_ (by omega) _ | with_reducible refine Kp.keep ?_ _ | with_reducible refine Kp.setW ?_ (by rfl) _) k3) g3)) ?_
  intro r h5 hr
  have b5 := (hr.keep ⟨hl (h.next + 1) (.mem 2 [[.int .i64 0, .nils]]) gH, gH⟩ (fun q => by have := (hg.w.us _ q).1; omega) (fun q => by have := hg.lt _ q; omega)).g
  have hR := fun Y => CaR.cell (T := h.next + 1) hg (by repeat first | exact Kp.refl | assumption | with_reducible refine Kp.put ?_ (by omega) _ | with_reducible refine Kp.setN ?_ (by omega) _ | with_reducible refine Kp.keep ?_ _ | with_reducible refine Kp.setW ?_ (by rfl) _) (by omega) (ltN gN (by omega)) hr Y
  clear hl hac
  obtain ⟨_, _, e', v', rfl, hsc, _⟩ := hr
  rcases hsc with rfl | ⟨c2, rfl⟩
  all_goals
   (refine go ?_)
   exact WW.ret ⟨.inl rfl, [.agg [.int .i64 e', _]], gRES, hR _⟩
end Go.Proofs.YthblcmnhiccnhaaGreat


namespace Go.Proofs.YthblcmnhiccnhaaGreat
open Go Go.Abs

theorem zts {n : WN} {h : AHeap} {b : Nat} {cv cv' sv : AV} (hb : BoxAt h b (boxO (n.a + 10) cv sv)) : Kp (fun id => id = b) h (h.set b (some (boxO (n.a + 10) cv' sv))) := Kp.cvt rfl rfl fun id hi => z1 hi rfl
set_option maxHeartbeats 2000000 in
theorem zlz {md : Bool} {h : AHeap} {n : WN} {s : WS} {k : Nat} {b : Nat} {cv sv : AV} (hg : WG md h n s) (hs : WSt md s k) (hk : k ≤ 60000) (hd : s.dk.waits = []) (hbx : BoxAt h b (boxO (n.a + 10) cv sv)) (hnb : ¬ n.nm md b) {P2 : AV → AHeap → AHeap → Prop} {e : Int} (keep : List Bool) (hkl : keep.length ≤ 9223372036854775807) (hcs : ∀ cv' h2 h3, P2 cv' h2 h3 → cv' = .nilp ∨ ∃ c, cv' = .ptr c 0 0)
  (hO : ∀ h2, WG md h2 n (s.crash (keepF keep)) → AC Tryz.prog 23 [.ptr (n.a + 10) 0 0] h2 (fun r h3 => ∃ cv', r = .tup [cv', .int .i64 e] ∧ P2 cv' h2 h3 ∧ Kp (n.own md) h2 h3)) :
  AC Tryz.prog 55 [.ptr b 0 0, .imm 1 (keep.map encBo)] h (fun r h' => r = .int .i64 e ∧ ∃ cv' h2 h3, P2 cv' h2 h3 ∧ h.next ≤ h2.next ∧ h' = h3.set b (some (boxO (n.a + 10) cv' sv)) ∧ BoxAt h3 b (boxO (n.a + 10) cv sv) ∧ Kp (n.own md) h h3) := by
 refine AC.introW zcl (by simp) ?_
 unfold z6h; dsimp only [qQ, qR, qM, qG]
 have hb := hbx.g
 simp only [boxO] at hb
 (refine go ?_)
 refine WL.callA rfl gM gSL (zrz hg hs.fit (by omega) hd keep hkl) ?_
 rintro _ h2 ⟨rfl, g2, k2⟩
 have b2 := hbx.kp k2 (fun q => hnb (.inl (WN.own_all q)))
 clear hb
 have hb := b2.g
 simp only [boxO] at hb
 (refine go ?_)
 refine WL.callA rfl gM gSL (hO h2 g2) ?_
 rintro _ h3 ⟨cv', rfl, hP, k3⟩
 have b3 := b2.kp k3 (fun q => hnb (.inl (WN.own_all q)))
 clear hb
 have hb := b3.g
 simp only [boxO] at hb
 have hx2 := k2.next
 rcases hcs _ _ _ hP with rfl | ⟨c, rfl⟩
 all_goals
  (refine go ?_)
  exact WW.ret ⟨.inl rfl, _, gRES, rfl, _, h2, h3, hP, hx2, rfl, b3, k2.trans k3⟩
end Go.Proofs.YthblcmnhiccnhaaGreat


namespace Go.Proofs.YthblcmnhiccnhaaGreat
open Go Go.Abs

theorem doC_L {s : WS} {boot : Int} {j : Nat} {lv : List Lf} : ∀ x ∈ (s.doC true boot j lv).2.1.L, x ∈ s.L ∨ (x.n.2.2 = boot * 4294967296 + ((j + 1 : Nat) : Int) ∧ x.data = rootB (s.doR true lv)) := by
 obtain ⟨_, e2, _, _⟩ := z2v true s s.doA lv
 have a1 : ∀ x ∈ (s.areaW true s.doA lv).L, x ∈ s.L ∨ (x.n.2.2 = boot * 4294967296 + ((j + 1 : Nat) : Int) ∧ x.data = rootB (s.doR true lv)) := fun x hx => by rw [e2] at hx; exact .inl hx
 have a3 : ∀ x ∈ ((s.areaW true s.doA lv).barS.logW true boot j (s.doR true lv)).L, x ∈ s.L ∨ (x.n.2.2 = boot * 4294967296 + ((j + 1 : Nat) : Int) ∧ x.data = rootB (s.doR true lv)) := by
  have := zbn (md := true) (L := (s.areaW true s.doA lv).barS.L) (k := (s.areaW true s.doA lv).barS.key) (n := (s.areaW true s.doA lv).barS.logN boot j) (hd := []) (d := rootB (s.doR true lv)) (P := fun x => x ∈ s.L ∨ (x.n.2.2 = boot * 4294967296 + ((j + 1 : Nat) : Int) ∧ x.data = rootB (s.doR true lv))) a1 (.inr ⟨rfl, rfl⟩)
  exact this
 exact z1n (P := fun d => ∀ x ∈ d.2.1.L, x ∈ s.L ∨ (x.n.2.2 = boot * 4294967296 + ((j + 1 : Nat) : Int) ∧ x.data = rootB (s.doR true lv))) (fun _ => a1) (fun _ _ => a1) (fun _ _ _ => a1) (fun _ _ _ _ => a3) (fun _ _ _ _ _ => a3) (fun _ _ _ _ _ _ => a3) (fun _ _ _ _ _ _ => a3)
def LastC (s : WS) (want : List Lf) : Prop :=
 (s.ct.value = 0 ∧ want = List.replicate 4 lf0) ∨ ∃ top e v b tg, Good true s want s.ct.value top e v b tg ∧ ∀ x ∈ s.L, x.n.2.2 / 4294967296 = s.ct.at' → x.data = rootB ⟨s.ct.value, e, s.n, top⟩
structure FoeI (i : Nat) (s : WS) (want : List Lf) : Prop where
 st : WSt true s (60 * i)
 fr : s.pw.Free
 n : s.n = 4
 dk : s.dk.waits = []
 b : s.ct.boots = i
 a : s.ct.at' ≤ i
 one : ∀ x ∈ s.L, x.n.2.2 / 4294967296 ≤ i
 w : want.length = 4
 g : LastC s want
theorem FoeI.step {i : Nat} {s : WS} {want lv : List Lf} (h : FoeI i s want) (hi : i < 12) (m : Int) (hm : -9223372036854775808 ≤ m ∧ m ≤ 9223372036854775807) (hl : lv.length = 4) (hw : ∀ x ∈ lv, x.Wf) (hok : lvOk lv 0 = true) (K : Nat → Bool) :
  WSt true (s.bootS.fused m) (60 * i + 1) ∧ FoeI (i + 1) (((s.bootS.fused m).doC true ((i + 1 : Nat) : Int) 0 lv).2.1.crash K) (if s.ct.value < ((s.bootS.fused m).doC true ((i + 1 : Nat) : Int) 0 lv).2.1.ct.value then lv else want) ∧ WSt true ((s.bootS.fused m).doC true ((i + 1 : Nat) : Int) 0 lv).2.1 (60 * i + 51) ∧ ((s.bootS.fused m).doC true ((i + 1 : Nat) : Int) 0 lv).2.1.dk.waits = [] ∧ ((s.bootS.fused m).doC true ((i + 1 : Nat) : Int) 0 lv).2.1.n = 4 := by
 have S1 : WSt true (s.bootS.fused m) (60 * i + 1) := h.st.boot.fused m hm
 have hb : (s.bootS.fused m).ct = ⟨s.ct.value, s.ct.boots + 1, s.ct.at'⟩ := zca h.fr
 have hln : (lv.length : Int) = (s.bootS.fused m).n := by rw [hl]; exact h.n.symm
 have S2 := zc9 (md := true) (boot := ((i + 1 : Nat) : Int)) (j := 0) S1 hln
 have hdk : ((s.bootS.fused m).doC true ((i + 1 : Nat) : Int) 0 lv).2.1.dk.waits = [] := by rw [zql]; exact h.dk
 have hn2 := (doC_n (md := true) (s := s.bootS.fused m) (boot := ((i + 1 : Nat) : Int)) (j := 0) (lv := lv)).1
 have hn4 : ((s.bootS.fused m).doC true ((i + 1 : Nat) : Int) 0 lv).2.1.n = 4 := hn2.trans h.n
 have hL := doC_L (s := s.bootS.fused m) (boot := ((i + 1 : Nat) : Int)) (j := 0) (lv := lv)
 have hct := zln (md := true) (s := s.bootS.fused m) (boot := ((i + 1 : Nat) : Int)) (j := 0) (lv := lv)
 have hbb := h.b
 have hone := h.one
 have haa := h.a
 have hq : (((i + 1 : Nat) : Int) * 4294967296 + ((0 + 1 : Nat) : Int)) / 4294967296 = i + 1 := by omega
 have hLs : (s.bootS.fused m).L = s.L := rfl
 rw [hLs] at hL
 have hone2 : ∀ x ∈ ((s.bootS.fused m).doC true ((i + 1 : Nat) : Int) 0 lv).2.1.L, x.n.2.2 / 4294967296 ≤ ((i + 1 : Nat) : Int) := fun x hx => by
  rcases hL x hx with hx | ⟨hx, _⟩
  ·have := hone x hx; omega
  ·rw [hx, hq]; omega
 refine ⟨S1, ?_, S2, hdk, hn4⟩
 by_cases hd : ((s.bootS.fused m).doC true ((i + 1 : Nat) : Int) 0 lv).1 = 0
 ·rw [if_pos hd, hb] at hct
  obtain ⟨_, G⟩ := zbp (md := true) (lv := lv) S1 (by omega) hln hw hok (show ((i + 1 : Nat) : Int) = (s.bootS.fused m).ct.boots by rw [hb]; dsimp only; omega) (j := 0) (by omega) hd
  have hv : ((s.bootS.fused m).doC true ((i + 1 : Nat) : Int) 0 lv).2.1.ct.value = (s.bootS.fused m).ct.value + 1 := by rw [hct, hb]; rfl
  rw [if_pos (by rw [hv, hb]; dsimp only; omega)]
  have hat : ((s.bootS.fused m).doC true ((i + 1 : Nat) : Int) 0 lv).2.1.ct.at' = ((i + 1 : Nat) : Int) := by rw [hct]; show s.ct.boots + 1 = _; omega
  refine ⟨(S2.crash K).mono (by omega), z44 _ _, hn4, rfl, by show ((s.bootS.fused m).doC true ((i + 1 : Nat) : Int) 0 lv).2.1.ct.boots = _; rw [hct]; show s.ct.boots + 1 = _; omega, by show ((s.bootS.fused m).doC true ((i + 1 : Nat) : Int) 0 lv).2.1.ct.at' ≤ _; omega, hone2, hl, .inr ?_⟩
  rw [← hv] at G
  refine ⟨_, _, _, _, _, G.settle S2.fit K, fun x hx hxa => ?_⟩
  rcases hL x hx with hx | ⟨_, hx⟩
  ·have := hone x hx
   have hxa' : x.n.2.2 / 4294967296 = ((s.bootS.fused m).doC true ((i + 1 : Nat) : Int) 0 lv).2.1.ct.at' := hxa
   omega
  ·rw [hx]
   show rootB ⟨(s.bootS.fused m).ct.value + 1, (s.bootS.fused m).ks.cur, (s.bootS.fused m).n, _⟩ = rootB ⟨((s.bootS.fused m).doC true ((i + 1 : Nat) : Int) 0 lv).2.1.ct.value, _, ((s.bootS.fused m).doC true ((i + 1 : Nat) : Int) 0 lv).2.1.n, _⟩
   rw [hv, hn2]
 ·rw [if_neg hd] at hct
  rw [if_neg (by rw [hct, hb]; dsimp only; omega)]
  refine ⟨(S2.crash K).mono (by omega), z44 _ _, hn4, rfl, by show ((s.bootS.fused m).doC true ((i + 1 : Nat) : Int) 0 lv).2.1.ct.boots = _; rw [hct, hb]; dsimp only; omega, by show ((s.bootS.fused m).doC true ((i + 1 : Nat) : Int) 0 lv).2.1.ct.at' ≤ _; rw [hct, hb]; dsimp only; omega, hone2, h.w, ?_⟩
  rcases h.g with ⟨g1, g2⟩ | ⟨top, e, v, b, tg, G, g2⟩
  ·exact .inl ⟨by show ((s.bootS.fused m).doC true ((i + 1 : Nat) : Int) 0 lv).2.1.ct.value = 0; rw [hct, hb]; exact g1, g2⟩
  ·refine .inr ⟨top, e, v, b, tg, ?_, fun x hx hxa => ?_⟩
   ·have G1 : Good true (s.bootS.fused m) want (s.bootS.fused m).ct.value top e v b tg := by
     rw [show (s.bootS.fused m).ct.value = s.ct.value by rw [hb]]
     exact G.to rfl rfl (by rw [hb]) G.op (Pre.refl _) G.kl G.kr
    have G2 := G1.undone (lw := lv) (boot := ((i + 1 : Nat) : Int)) (j := 0) S1 hln hd
    rw [show (s.bootS.fused m).ct.value = ((s.bootS.fused m).doC true ((i + 1 : Nat) : Int) 0 lv).2.1.ct.value by rw [hct]] at G2
    exact G2.settle S2.fit K
   ·have hxa' : x.n.2.2 / 4294967296 = ((s.bootS.fused m).doC true ((i + 1 : Nat) : Int) 0 lv).2.1.ct.at' := hxa
    rw [hct, hb] at hxa'
    rcases hL x hx with hx | ⟨hx, _⟩
    ·rw [g2 x hx hxa']
     show rootB ⟨s.ct.value, e, s.n, top⟩ = rootB ⟨((s.bootS.fused m).doC true ((i + 1 : Nat) : Int) 0 lv).2.1.ct.value, e, ((s.bootS.fused m).doC true ((i + 1 : Nat) : Int) 0 lv).2.1.n, top⟩
     rw [hct, hb, hn2]; rfl
    ·rw [hx, hq] at hxa'; dsimp only at hxa'; omega
theorem LastC.load {s : WS} {want : List Lf} {k : Nat} (h : LastC s want) (hs : s.Fit k) (hgo : s.pw.gone = false) (hn : s.n = 4) : s.loadE true = 0 ∧ s.loadL true = want := by
 rcases h with ⟨g1, g2⟩ | ⟨top, e, v, b, tg, G, _⟩
 ·obtain ⟨q1, q2, _⟩ := zil (md := true) hgo g1
  exact ⟨q1, by rw [q2, hn, g2]; rfl⟩
 ·exact G.load hs hgo
end Go.Proofs.YthblcmnhiccnhaaGreat


namespace Go.Proofs.YthblcmnhiccnhaaGreat
open Go Go.Abs

theorem ztt {md : Bool} (s : WS) {k : Nat} (hs : s.Fit k) : Pre s.S (s.loadS md).S := by
 have hg := z2 hs.g
 rw [WS.loadS]
 repeat' split
 ·exact Pre.refl _
 ·exact Pre.refl _
 ·exact Pre.refl _
 ·exact zii md _ (by omega)
end Go.Proofs.YthblcmnhiccnhaaGreat


namespace Go.Proofs.YthblcmnhiccnhaaGreat
open Go Go.Abs

theorem CaOk.com {md : Bool} {x : CaS} {k : Nat} (hx : CaOk md x k) : CaOk md (x.com md) (k + 50) :=
 ⟨zc9 hx.st hx.l, hx.b, (doC_j hx.j).1, hx.l.trans doC_n.1.symm, hx.w, hx.ok⟩
theorem ztu {md : Bool} {h2 h5 : AHeap} {n : CaN} {x : CaS} (g5 : CaG md h5 n.frz (x.com md)) (k5 : Kp (fun id => n.w.own md id ∨ n.own id) h2 h5) : CaR md h2 n (fun e v x' => e = x.comE md ∧ v = .nils ∧ x' = x.com md) (.agg [.int .i64 (x.comE md), .nils]) h5 :=
 ⟨n.frz, x.com md, x.comE md, .nils, rfl, .inl rfl, ⟨rfl, rfl, rfl⟩, g5, CaMv.frz, k5⟩
theorem zha {md : Bool} {h : AHeap} {n : CaN} {x : CaS} {k : Nat} (hg : CaG md h n x) (hx : CaOk md x k) (hk : k ≤ 80000) (lba : Int) :
  AC Tryz.prog 83 [.ptr n.c 0 0, .agg [.int .i64 3, .int .i64 lba, .nils]] h (CaR md h n (fun e v x' => e = x.comE md ∧ v = .nils ∧ x' = x.com md)) := by
 refine AC.introW z9b (by simp) ?_
 unfold z4f; dsimp only [qQ, qR, qM, qG]
 (refine go ?_)
 refine WL.live fun hl => ?_
 refine WL.callA rfl gM gSL (zfz (hg.new (by repeat first | exact Kp.refl | assumption | with_reducible refine Kp.put ?_ (by omega) _ | with_reducible refine Kp.setN ?_ (by omega) _ | with_reducible refine Kp.keep ?_ _ | with_reducible refine Kp.setW ?_ (by rfl) _)) hx hk) ?_
 rintro _ h5 ⟨rfl, g5, k5⟩
 have hr := ztu g5 k5
 have b5 := (hr.keep ⟨hl (h.next + 1) (.mem 2 [[.int .i64 0, .nils]]) gH, gH⟩ (fun q => by have := (hg.w.us _ q).1; omega) (fun q => by have := hg.lt _ q; omega)).g
 have hR := fun Y => CaR.cell (T := h.next + 1) hg (by repeat first | exact Kp.refl | assumption | with_reducible refine Kp.put ?_ (by omega) _ | with_reducible refine Kp.setN ?_ (by omega) _ | with_reducible refine Kp.keep ?_ _ | with_reducible refine Kp.setW ?_ (by rfl) _) (by omega) (ltN gN (by omega)) hr Y
 clear hl
 (refine go ?_)
 exact WW.ret ⟨.inl rfl, [.agg [.int .i64 (x.comE md), _]], gRES, hR _⟩
theorem zhb {md : Bool} {h : AHeap} {n : CaN} {x : CaS} {k : Nat} {b w : Nat} {sv : AV} (hg : CaG md h n x) (hx : CaOk md x k) (hk : k ≤ 80000) (hgo : x.s.pw.gone = false) (hb : x.bad = false) (hbx : BoxAt h b (boxO w (.ptr n.c 0 0) sv)) :
  AC Tryz.prog 16 [.ptr b 0 0, .agg [.int .i64 1, .int .i64 3, .int .i64 0, .nils, .int .i64 0, .int .i64 0, .nils, .nils]] h (CaR md h n (fun e v x' => e = x.comE md ∧ v = .nils ∧ x' = x.com md)) :=
 z5f hg hbx 3 0 .nils (.inl rfl) fun h2 k2 g2 => z7n g2 hgo hb 3 0 .nils (.inl rfl) (by omega) (fun h3 => zlw 3 (.inl rfl) 0 .nils (.inl rfl) h3) fun h3 k3 g3 => zha g3 hx hk 0
end Go.Proofs.YthblcmnhiccnhaaGreat


namespace Go.Proofs.YthblcmnhiccnhaaGreat
open Go Go.Abs

def freeP (x : CaS) (i : Nat) : Bool := ((x.now.getD i lf0).k == 0) && ((x.was.getD i lf0).k == 0)
section
variable {md : Bool} {h : AHeap} {n : CaN} {x : CaS}
theorem zg1 (hg : CaG md h n x) (i : Nat) (hi : i < x.now.length) (hi2 : i < x.was.length) : AE Tryz.prog 88 [.ptr n.c 0 0, .int .i64 i] h (.bool (freeP x i)) h := by
 obtain ⟨g1, g2, ⟨v, g3, g4⟩, g5, g6, g8, g7⟩ := hg
 have hc := g4.g
 have e1 : x.now.getD i lf0 = x.now[i] := by simp [List.getD_eq_getElem?_getD, hi]
 have e2 : x.was.getD i lf0 = x.was[i] := by simp [List.getD_eq_getElem?_getD, hi2]
 refine AE.pureW z8j (by simp) ?_
 unfold z48; dsimp only [qQ, qR, qM, qG]
 rcases g3 with rfl | ⟨rfl, hE⟩
 ·(refine go ?_)
  (apply WL.andB; exact rfl; exact rfl; exact rfl; exact BP.of; intro hz1)
  ·(repeat first | (apply GW.goS; exact Stp.auto) | apply GW.nil | exact rfl)
  (refine go ?_)
  refine WW.ret (PureQ.finD ?_)
  exact fz_b (by rw [freeP, e1, e2])
 ·have hEg := hE.g
  (refine go ?_)
  simp only [Nat.zero_add]
  (apply WL.andB; exact rfl; exact rfl; exact rfl; exact BP.of; intro hz1)
  ·(repeat first | (apply GW.goS; exact Stp.auto) | apply GW.nil | exact rfl)
  (refine go ?_)
  refine WW.ret (PureQ.finD ?_)
  exact fz_b (by rw [freeP, e1, e2])
def freeI (x : CaS) : Int := if (List.range x.now.length).findIdx (freeP x) < x.now.length then ((List.range x.now.length).findIdx (freeP x) : Int) else -1
theorem z9y (hg : CaG md h n x) (hl : x.now.length ≤ 16) (hl2 : x.was.length = x.now.length) : AE Tryz.prog 133 [.ptr n.c 0 0] h (.int .i64 (freeI x)) h := by
 have hgg := hg
 obtain ⟨g1, g2, ⟨v, g3, g4⟩, g5, g6, g8, g7⟩ := hg
 have hc := g4.g
 have hlr : (List.range x.now.length).length = x.now.length := List.length_range
 refine AE.pureW za9 (by simp) ?_
 unfold z57; dsimp only [qQ, qR, qM, qG]
 rcases g3 with rfl | ⟨rfl, hE⟩
 all_goals
  (refine go ?_)
  refine WW.loopE (fun (i : Nat) => [(0, some (.ptr n.c 0 0)), (8, some (.int .i64 x.now.length)), (9, some (.int .i64 i))])
   (fun i h' => h' = h ∧ i ≤ x.now.length ∧ i ≤ (List.range x.now.length).findIdx (freeP x)) (fun i => x.now.length - i) 0 gSUB ⟨rfl, Nat.zero_le _, Nat.zero_le _⟩ ?_
  rintro i h' ⟨rfl, c1, c2⟩
  (refine go ?_)
  (refine WW.ifB rfl (fun hz1 => ?_) (fun hz1 => ?_))
  ·have hi : i < x.now.length := by omega
   (refine go ?_)
   refine WL.call rfl gM gSL (zg1 hgg i hi (by omega)) ?_
   cases hp : freeP x i with
   | true =>
    (refine go ?_)
    refine WW.ret (PureQ.finD ?_)
    have he : (List.range x.now.length).findIdx (freeP x) = i := by
     rcases Nat.lt_or_ge i ((List.range x.now.length).findIdx (freeP x)) with h1 | h1
     ·have := List.not_of_lt_findIdx h1
      rw [List.getElem_range, hp] at this; simp at this
     ·omega
    rw [freeI, he, if_pos hi]
    exact fz_i rfl
   | false =>
    (refine go ?_)
    refine ⟨i + 1, gSUB, ⟨rfl, by omega, ?_⟩, by omega⟩
    rcases Nat.lt_or_ge i ((List.range x.now.length).findIdx (freeP x)) with h1 | h1
    ·exact h1
    ·have he : (List.range x.now.length).findIdx (freeP x) = i := by omega
     have := List.findIdx_getElem (p := freeP x) (w := by rw [he, hlr]; exact hi)
     simp only [he, List.getElem_range] at this
     rw [hp] at this; cases this
  ·(refine go ?_)
   refine WW.ret (PureQ.finD ?_)
   rw [freeI, if_neg (by omega)]
   exact fz_i rfl
end
theorem z9z (lba : Int) (hl : 0 ≤ lba ∧ lba < 32) (h : AHeap) : AE Tryz.prog 198 [.int .i64 lba] h (.imm 1 ((putB lba 2).map encB)) h := by
 refine AE.pureW zjp (by simp) ?_
 unfold zbs; dsimp only [qQ, qR, qM, qG]
 (refine go ?_)
 refine WL.call rfl gM gSL (zz lba 2 _ (by decide)) ?_
 (refine go ?_)
 refine WW.ret (PureQ.finD ?_)
 exact zk7 rfl (flatB _)
theorem zbu (n i : Int) (hn : isG n = true) (hi : 0 ≤ i ∧ i < n) (h : AHeap) : AE Tryz.prog 196 [.agg [.int .i64 n], .int .i64 i] h (.int .i64 (i * 32)) h := by
 have hg := z2 hn
 refine AE.pureW zcn (by simp) ?_
 unfold z6k; dsimp only [qQ, qR, qM, qG]
 (refine go ?_)
 refine WL.call rfl gM gSL (z1t n i n _) ?_
 rw [show (isG n && decide (0 ≤ i) && decide (i < n)) = true by simp [hn]; omega]
 (refine go ?_)
 refine WW.ret (PureQ.finD ?_)
 exact fz_i rfl
end Go.Proofs.YthblcmnhiccnhaaGreat


namespace Go.Proofs.YthblcmnhiccnhaaGreat
open Go Go.Abs

def ixF (p : Lf → Bool) (l : List Lf) : Int := if l.findIdx p < l.length then (l.findIdx p : Int) else -1
theorem z9f {h : AHeap} {v : AV} {E : Nat} {l : List Lf} {f : Nat} {us ts : List AV} {p : Lf → Bool} (hv : RowV h v l E) (hl : l.length ≤ 1000000) (hb : zq4 f) (hK : ∀ h2, Keeps h h2 → ∀ y, AE Tryz.prog f (us ++ [.agg (encL y)] ++ ts) h2 (.bool (p y)) h2) :
  AE Tryz.prog 194 [v, .func (.func f) us ts] h (.int .i64 (ixF p l)) h := by
 refine AE.pureW z2w (by simp) ?_
 unfold z1i; dsimp only [qQ, qR, qM, qG]
 rcases hv with rfl | ⟨rfl, hE⟩
 ·(refine go ?_)
  refine WW.loopE (fun (i : Nat) => [(0, some (.imm 8 (l.map encL))), (1, some (.func (.func f) us ts)), (7, some (.int .i64 l.length)), (8, some (.int .i64 i))])
   (fun i h' => h' = h ∧ i ≤ l.length ∧ i ≤ l.findIdx p) (fun i => l.length - i) 0 gSUB ⟨rfl, Nat.zero_le _, Nat.zero_le _⟩ ?_
  rintro i h' ⟨rfl, c1, c2⟩
  (refine go ?_)
  (refine WW.ifB rfl (fun hz1 => ?_) (fun hz1 => ?_))
  ·have hi : i < l.length := by omega
   (repeat first | refine WW.seq ?_ | refine WW.reg ?_ | refine WL.nil ?_ | refine WW.skip ?_ | refine WW.block ?_ | refine thenN ?_ | refine blkN ?_); iterate 2 (refine WL.go ?_)
   (repeat first | refine WW.seq ?_ | refine WW.reg ?_ | refine WL.nil ?_ | refine WW.skip ?_ | refine WW.block ?_ | refine thenN ?_ | refine blkN ?_); iterate 5 (refine WL.go ?_)
   refine WL.fx1 (FX.callv rfl rfl gM hb.ok (hK _ (Keeps.refl _) l[i])) ?_
   cases hp : p l[i] with
   | true =>
    (refine go ?_)
    refine WW.ret (PureQ.finD ?_)
    have he : l.findIdx p = i := by
     rcases Nat.lt_or_ge i (l.findIdx p) with h1 | h1
     ·have := List.not_of_lt_findIdx h1; rw [hp] at this; simp at this
     ·omega
    rw [ixF, he, if_pos hi]
    exact fz_i rfl
   | false =>
    (refine go ?_)
    refine ⟨i + 1, gSUB, ⟨rfl, by omega, ?_⟩, by omega⟩
    rcases Nat.lt_or_ge i (l.findIdx p) with h1 | h1
    ·exact h1
    ·have he : l.findIdx p = i := by omega
     have := List.findIdx_getElem (p := p) (w := by rw [he]; exact hi)
     simp only [he] at this
     rw [hp] at this; cases this
  ·(refine go ?_)
   refine WW.ret (PureQ.finD ?_)
   rw [ixF, if_neg (by omega)]
   exact fz_i rfl
 ·have hEg := hE.g
  (refine go ?_)
  refine WW.loopE (fun (i : Nat) => [(0, some (.ref E 0 l.length)), (1, some (.func (.func f) us ts)), (7, some (.int .i64 l.length)), (8, some (.int .i64 i))])
   (fun i h' => h' = h ∧ i ≤ l.length ∧ i ≤ l.findIdx p) (fun i => l.length - i) 0 gSUB ⟨rfl, Nat.zero_le _, Nat.zero_le _⟩ ?_
  rintro i h' ⟨rfl, c1, c2⟩
  (refine go ?_)
  (refine WW.ifB rfl (fun hz1 => ?_) (fun hz1 => ?_))
  ·have hi : i < l.length := by omega
   (repeat first | refine WW.seq ?_ | refine WW.reg ?_ | refine WL.nil ?_ | refine WW.skip ?_ | refine WW.block ?_ | refine thenN ?_ | refine blkN ?_); iterate 2 (refine WL.go ?_)
   (repeat first | refine WW.seq ?_ | refine WW.reg ?_ | refine WL.nil ?_ | refine WW.skip ?_ | refine WW.block ?_ | refine thenN ?_ | refine blkN ?_); iterate 5 (refine WL.go ?_)
   simp only [Nat.zero_add]
   refine WL.fx1 (FX.callv rfl rfl gM hb.ok (hK _ (Keeps.refl _) l[i])) ?_
   cases hp : p l[i] with
   | true =>
    (refine go ?_)
    refine WW.ret (PureQ.finD ?_)
    have he : l.findIdx p = i := by
     rcases Nat.lt_or_ge i (l.findIdx p) with h1 | h1
     ·have := List.not_of_lt_findIdx h1; rw [hp] at this; simp at this
     ·omega
    rw [ixF, he, if_pos hi]
    exact fz_i rfl
   | false =>
    (refine go ?_)
    refine ⟨i + 1, gSUB, ⟨rfl, by omega, ?_⟩, by omega⟩
    rcases Nat.lt_or_ge i (l.findIdx p) with h1 | h1
    ·exact h1
    ·have he : l.findIdx p = i := by omega
     have := List.findIdx_getElem (p := p) (w := by rw [he]; exact hi)
     simp only [he] at this
     rw [hp] at this; cases this
  ·(refine go ?_)
   refine WW.ret (PureQ.finD ?_)
   rw [ixF, if_neg (by omega)]
   exact fz_i rfl
def slotP (lba : Int) (y : Lf) : Bool := (y.k != 0) && (y.lba == lba)
theorem zqo {h : AHeap} {p : Nat} {lba : Int} (hp : h.get p = some (.mem 1 [[.int .i64 lba]])) (y : Lf) : AE Tryz.prog 195 [.agg (encL y), .ptr p 0 0] h (.bool (slotP lba y)) h := by
 refine AE.wf fun hwf => ?_
 have h0 := hwf _ _ hp
 refine AE.pureW z8i (by simp) ?_
 unfold z47; dsimp only [qQ, qR, qM, qG]
 (refine go ?_)
 (apply WL.andB; exact rfl; exact rfl; exact rfl; exact BP.of; intro hz1)
 ·(repeat first | (apply GW.goS; exact Stp.auto) | apply GW.nil | exact rfl)
 (refine go ?_)
 refine WW.ret (PureQ.finD ?_)
 exact fz_b rfl
theorem za0 {md : Bool} {h : AHeap} {n : CaN} {x : CaS} (hg : CaG md h n x) (hl : x.now.length ≤ 1000000) (lba : Int) : AE Tryz.prog 131 [.ptr n.c 0 0, .int .i64 lba] h (.int .i64 (ixF (slotP lba) x.now)) h := by
 obtain ⟨g1, g2, ⟨v, g3, g4⟩, g5, g6, g8, g7⟩ := hg
 have hc := g4.g
 have hcl := g4.u.1
 refine AE.pureW za8 (by simp) ?_
 unfold z56; dsimp only [qQ, qR, qM, qG]
 (refine go ?_)
 have hv : RowV (h.put h.next (.mem 1 [[.int .i64 lba]])) v x.now n.nE := g3.kp (W := fun _ => False) (by repeat first | exact Kp.refl | assumption | with_reducible refine Kp.put ?_ (by omega) _ | with_reducible refine Kp.setN ?_ (by omega) _ | with_reducible refine Kp.keep ?_ _ | with_reducible refine Kp.setW ?_ (by rfl) _) (fun h => h)
 refine WL.call rfl gM gSL (z9f hv hl (f := 195) (us := []) (ts := [.ptr h.next 0 0]) (p := slotP lba) ⟨by kernel_rfl⟩ (fun h2 hk y => zqo ((hk.2 _ z3).trans gH) y)) ?_
 (refine go ?_)
 refine WW.ret (PureQ.finD ?_)
 exact fz_i rfl
end Go.Proofs.YthblcmnhiccnhaaGreat


namespace Go.Proofs.YthblcmnhiccnhaaGreat
open Go Go.Abs

set_option maxHeartbeats 8000000 in
theorem zhc {h : AHeap} {n : CaN} {x : CaS} {k : Nat} (hg : CaG true h n x) (hx : WSt true x.s k) (hk : k ≤ 80000) (hgo : x.s.pw.gone = false) (i : Nat) (hi : i < x.now.length) (hl : (x.now.length : Int) = x.s.n) {l : Lf} (hlf : x.now[i] = l) (hk1 : l.k = 1) (he : 0 ≤ l.e ∧ l.e < 4294967296) (hep : l.e ∈ x.s.ks.epochs) (hlba : 0 ≤ l.lba ∧ l.lba < 32) (d : Bs)
  (hop : openO x.s.L (ofK x.s.ks.seed l.e) (l.e, l.sl, l.n) (putB l.lba 2) (sub x.s.sd.snap (32 * i) 32) l.tg = some d) :
  AE Tryz.prog 132 [.ptr n.c 0 0, .int .i64 i] h (.tup [.imm 1 (d.map encB), .int .i64 0]) h := by
 have hss := hx.fit.g
 have hgx := z2 hss
 have hll : x.s.sd.lasts.length = (x.s.n * 160 + 120).toNat := by rw [hx.fit.sd.len, zi hss]
 have hl1 : x.s.sd.lasts.length ≤ 1000000 := by omega
 have hl2 : x.s.sd.lasts ≠ [] := by intro e; rw [e] at hll; simp at hll; omega
 have hin : (inB x.s.sd.lasts.length ((i : Int) * 32) 32 && !x.s.pw.gone) = true := by rw [hgo, hll]; simp [inB]; omega
 have hfit : ∀ o ∈ x.s.sd.waits, 0 ≤ o.1 ∧ o.1 + o.2.length ≤ x.s.sd.lasts.length := fun o ho => by have := hx.fit.sd.w o ho; rw [zi hss] at this; omega
 have hkw : x.s.sd.waits.length ≤ 1000000 := Nat.le_trans hx.fit.sd.kw (by omega)
 have hin2 : (i : Int) < x.s.n := by omega
 have hLL : x.s.L.length ≤ 1000000 := by have := hx.fit.ll; omega
 have hdat : ∀ y ∈ x.s.L, y.data.length ≤ 1000000 := fun y hy => by have := hx.dat y hy; omega
 clear hgx
 have hsub : (if true = true then (x.s.sd.snap.drop ((i : Int) * 32).toNat).take (32 : Int).toNat else []) = sub x.s.sd.snap (32 * i) 32 := by
  rw [if_pos rfl, sub, show ((i : Int) * 32).toNat = 32 * i by omega]; rfl
 have hna : n.w.a + 11 ≤ h.next := hg.w.w.nx
 have hnE : n.w.E < h.next := hg.w.w.nB.2
 have hgg := hg
 obtain ⟨g1, g2, ⟨v, g3, g4⟩, g5, g6, g8, g7⟩ := hg
 have hc := g4.g
 have hcl := g8 n.c (.inl rfl)
 refine AE.pureW z9d (by simp) ?_
 unfold z4h; dsimp only [qQ, qR, qM, qG]
 (repeat first | refine WW.seq ?_ | refine WW.reg ?_ | refine WL.nil ?_ | refine WW.skip ?_ | refine WW.block ?_ | refine thenN ?_ | refine blkN ?_); iterate 2 (refine WL.go ?_)
 refine WL.nil ?_
 refine thenN ?_
 refine WW.seqM (fun e2 h2 => subE [(0, some (.ptr n.c 0 0)), (1, some (.int .i64 i)), (6, some (.ptr h.next 0 0))] e2 ∧ Kp (fun _ => False) h h2 ∧ h2.get h.next = some (.mem 8 [encL l]) ∧ h.next < h2.next) ?_ ?_
 ·rcases g3 with rfl | ⟨rfl, hE⟩
  ·(refine go ?_)
   rw [hlf]
   exact ⟨rfl, gSUB, (by repeat first | exact Kp.refl | assumption | with_reducible refine Kp.put ?_ (by omega) _ | with_reducible refine Kp.setN ?_ (by omega) _ | with_reducible refine Kp.keep ?_ _ | with_reducible refine Kp.setW ?_ (by rfl) _), gH, (ltN gN (by omega))⟩
  ·have hEg := hE.g
   (refine go ?_)
   simp only [Nat.zero_add]
   rw [hlf]
   exact ⟨trivial, gSUB, (by repeat first | exact Kp.refl | assumption | with_reducible refine Kp.put ?_ (by omega) _ | with_reducible refine Kp.setN ?_ (by omega) _ | with_reducible refine Kp.keep ?_ _ | with_reducible refine Kp.setW ?_ (by rfl) _), gH, (ltN gN (by omega))⟩
 clear hc g3 g4 g2 g5 g6 g7 g8
 rintro e2 h2 ⟨hs2, k2, t6, hx2⟩
 refine WW.cvt (Cvt.sub hs2) ?_
 clear hs2
 have gg2 := hgg.new k2
 obtain ⟨w1, w2, ⟨v2, w3, w4⟩, w5, w6, w8, w7⟩ := gg2
 have hc := w4.g
 have hob := w1.w.w
 simp only [wRow] at hob
 simp only [encL] at t6
 rw [hk1] at t6
 (refine go ?_)
 refine DW.callS rfl gM gSL rfl (zbu x.s.n i hss ⟨by omega, hin2⟩ _) ?_
 (refine go ?_)
 refine DW.callS rfl gM gSL rfl (z7j w1.w.sd hl1 hl2 hkw hfit ((i : Int) * 32) 32 (by decide)) ?_
 rw [hin, hsub]
 (refine go ?_)
 have hna2 : n.w.a + 11 ≤ h2.next := w1.w.nx
 have hnE2 : n.w.E < h2.next := w1.w.nB.2
 have hcl2 := w8 n.c (.inl rfl)
 have hx3 : h.next < h2.next := hx2
 refine WW.dregX [14, 15] [3, 6, 9, 10] [] gN (by decide +kernel) ?_
 (refine go ?_)
 refine DW.callSF (Φ := PhiW h2.next [] h2) (by repeat first | exact PhiW.refl | refine PhiW.put (by omega) ?_ | refine PhiW.setW (by simp) ?_ | refine PhiW.setN (by omega) ?_) rfl gM gSL (fun h3 hp3 => z7i (w1.w.ks.same (hp3 (n.w.a + 9) (by omega) (by simp)) (hp3 n.w.E (by omega) (by simp))) l.e he) ?_
 rw [if_pos hep, decide_eq_true hep]
 (refine go ?_)
 refine DW.callS rfl gM gSL rfl (z9z l.lba hlba _) ?_
 (refine go ?_)
 refine DW.callS rfl gM (vs := [.ptr n.w.l 0 0, .agg (encP (ofK x.s.ks.seed l.e)), .agg (encN (l.e, l.sl, l.n)), .imm 1 ((putB l.lba 2).map encB), .agg (encS (sub x.s.sd.snap (32 * i) 32) l.tg)]) gSL rfl (z9t ((w1.new (by repeat first | exact Kp.refl | assumption | with_reducible refine Kp.put ?_ (by omega) _ | with_reducible refine Kp.setN ?_ (by omega) _ | with_reducible refine Kp.keep ?_ _ | with_reducible refine Kp.setW ?_ (by rfl) _)).w.lk.id rfl) hLL hdat _ _ _ _ _) ?_
 rw [hop]
 simp only [Option.getD_some, Option.isSome_some]
 (refine go ?_)
 have k3 : Keeps h h2 := k2.keeps (fun _ h => h.elim)
 refine WW.ret (PureQ.finD ?_)
 exact Fz.tup2 (zk7 rfl (flatB _)) (fz_i rfl)
end Go.Proofs.YthblcmnhiccnhaaGreat


namespace Go.Proofs.YthblcmnhiccnhaaGreat
open Go Go.Abs

def CaS.layN (x : CaS) (f : Nat) : Nn := (x.s.ks.cur, (f : Int), x.boot * 4294967296 + ((x.j + 1 : Nat) : Int))
def CaS.layI (x : CaS) (f : Nat) (lba : Int) (d : Bs) : Iss := newI (x.s.L.length + 1) x.s.key (x.layN f) (putB lba 2) d
def CaS.layW (x : CaS) (f : Nat) (lba : Int) (d : Bs) : WS := { x.s with L := x.s.L ++ [x.layI f lba d], pw := x.s.pw.spend, sd := x.s.sd.write ((f : Int) * 32, (x.layI f lba d).out) true }
def CaS.layL (x : CaS) (f : Nat) (lba : Int) (d : Bs) (dirty : Bool) : Lf := ⟨1, dirty, lba, x.s.ks.cur, f, x.boot * 4294967296 + ((x.j + 1 : Nat) : Int), (x.layI f lba d).tag⟩
def CaS.lay (x : CaS) (f : Nat) (lba : Int) (d : Bs) : CaS := { x with s := x.layW f lba d, j := x.j + 1 }
theorem caG_j {md : Bool} {h h' : AHeap} {n : CaN} {x : CaS} (hg : CaG md h n x) (hk : Kp (fun id => id = n.k) h h') (hm : h'.get n.k = some (mkO x.boot (x.j + 1))) : CaG md h' n { x with j := x.j + 1 } := by
 obtain ⟨g1, g2, ⟨v, g3, g4⟩, g5, g6, g8, g7⟩ := hg
 obtain ⟨d1, d2, d3, d4, d5, d6, d7, d8, d9⟩ := g7
 have hE : n.nE ≠ n.k := by rcases d7 with h | h <;> omega
 have hS : n.sE ≠ n.k := by rcases d8 with h | h <;> omega
 exact ⟨g1.kp hk fun id hi e => g6 n.k (.inr (.inl rfl)) (e ▸ hi), ⟨hk.us _ g2.u, hm⟩, ⟨v, g3.kp hk hE, g4.kp hk d1⟩, g5.kp hk (fun e => d4 e.symm) (fun e => d5 e.symm) hS, g6, fun id hi => Nat.lt_of_lt_of_le (g8 id hi) hk.next, ⟨d1, d2, d3, d4, d5, d6, d7, d8, d9⟩⟩
theorem zp5 {h : AHeap} {nm id : Nat} {x : AObj} {y : Option AObj} : nm < ((h.put nm x).set id y).next := (z3 (h := h) (x := x)).1
theorem caG_w {md : Bool} {h h' : AHeap} {n : CaN} {x : CaS} {s' : WS} (hg : CaG md h n x) (g' : WG md h' n.w s') (hk : Kp (n.w.own md) h h') : CaG md h' n { x with s := s' } := by
 obtain ⟨g1, g2, ⟨v, g3, g4⟩, g5, g6, g8, g7⟩ := hg
 have hno : ∀ id, n.own id → ¬ n.w.own md id := fun id hi q => g6 id hi (.inl (WN.own_all q))
 exact ⟨g', g2.kp hk (hno _ (.inr (.inl rfl))), ⟨v, g3.kp hk (hno _ (.inr (.inr (.inr (.inr (.inl rfl)))))), g4.kp hk (hno _ (.inl rfl))⟩, g5.kp hk (hno _ (.inr (.inr (.inl rfl)))) (hno _ (.inr (.inr (.inr (.inl rfl))))) (hno _ (.inr (.inr (.inr (.inr (.inr rfl)))))), g6, fun id hi => Nat.lt_of_lt_of_le (g8 id hi) hk.next, g7⟩
set_option maxHeartbeats 8000000 in
theorem zm0 {h : AHeap} {n : CaN} {x : CaS} {k : Nat} (hg : CaG true h n x) (hx : CaOk true x k) (hk : k ≤ 80000) (hw2 : x.was.length = x.now.length) (hj : x.j < 100) (hcan : x.s.pw.can = true) {f : Nat} (hf : freeI x = f) (hfn : f < x.now.length) (lba : Int) (hlba : 0 ≤ lba ∧ lba < 32) (d : Bs) (hd : d.length = 32) (dirty : Bool) :
  AC Tryz.prog 135 [.ptr n.c 0 0, .int .i64 lba, .imm 1 (d.map encB), .bool dirty] h
   (fun r h' => r = .tup [.int .i64 f, .agg (encL (x.layL f lba d dirty)), .int .i64 0] ∧ CaG true h' n (x.lay f lba d) ∧ Kp (fun id => n.w.own true id ∨ id = n.k) h h') := by
 have hn16 : x.now.length ≤ 16 := by have h1 := z2 hx.st.fit.g; have h2 := hx.l; omega
 have hnl : ∀ id, n.w.nm true id → id < h.next := fun id hi => (hg.w.us _ hi).1
 have hna : n.w.a + 11 ≤ h.next := hg.w.w.nx
 have hck : n.c ≠ n.k := hg.dj.1
 have hkl := hg.lt n.k (.inr (.inl rfl))
 have hkn := hg.nm n.k (.inr (.inl rfl))
 have hcn := hg.nm n.c (.inl rfl)
 have hcl := hg.lt n.c (.inl rfl)
 obtain ⟨v, hrow, hcb⟩ := hg.c
 have hc := hcb.g
 have hob := hg.w.w.w
 simp only [wRow] at hob
 have hob1 : h.get (n.w.a + 10) = some (.mem 7 [wRow n.w x.s.n]) := hg.w.w.w
 have hoL : n.w.o < h.next := hnl _ (.inl (.inr (.inr (.inr ⟨rfl, .inl rfl⟩))))
 have htL : n.w.t < h.next := hnl _ (.inl (.inr (.inr (.inr ⟨rfl, .inr (.inl rfl)⟩))))
 have hLk : n.w.l < h.next := hnl _ (.inl (.inr (.inl rfl)))
 have hco : n.c ≠ n.w.o := fun e => hcn (.inl (.inr (.inr (.inr ⟨rfl, .inl e⟩))))
 have hct : n.c ≠ n.w.t := fun e => hcn (.inl (.inr (.inr (.inr ⟨rfl, .inr (.inl e)⟩))))
 have hkg := hg.mr
 refine AC.introW zbr (by simp) ?_
 unfold z5q; dsimp only [qQ, qR, qM, qG]
 (refine go ?_)
 refine WL.call rfl gM gSL (z9y (hg.new (by repeat first | exact Kp.refl | assumption | with_reducible refine Kp.put ?_ (by omega) _ | with_reducible refine Kp.setN ?_ (by omega) _ | with_reducible refine Kp.keep ?_ _ | with_reducible refine Kp.setW ?_ (by rfl) _)) (by omega) hw2) ?_
 rw [hf]
 (refine go ?_)
 refine WL.call rfl gM gSL (z6e (hg.w.new (by repeat first | exact Kp.refl | assumption | with_reducible refine Kp.put ?_ (by omega) _ | with_reducible refine Kp.setN ?_ (by omega) _ | with_reducible refine Kp.keep ?_ _ | with_reducible refine Kp.setW ?_ (by rfl) _)).w hx.st.cur.2) ?_
 (refine go ?_)
 refine WL.call rfl gM gSL (z9r ((gE : _ = h.get n.k).trans hkg.g) hx.b hj x.s.ks.cur f (by omega)) ?_
 (refine go ?_)
 refine WW.named (fun h3 => CaG true h3 n { x with j := x.j + 1 } ∧ Kp (fun id => id = n.k) h h3 ∧ h3.get h.next = some (.mem 8 [[.int .i64 0, .bool false, .int .i64 0, .int .u32 0, .int .u32 0, .int .u64 0, .int .u64 0, .int .u64 0]]) ∧ h3.get (h.next + 1) = some (.mem 2 [encP x.s.key]) ∧ h3.get (h.next + 2) = some (.mem 3 [encN (x.layN f)]) ∧ h3.next = h.next + 3 ∧ h3.get n.c = some (.mem 6 [[.ptr (n.w.a + 10) 0 0, .ptr n.k 0 0, v, .imm 8 (x.was.map encL), .ptr n.a 0 0, .bool x.bad]])) ⟨caG_j hg (by repeat first | exact Kp.refl | assumption | with_reducible refine Kp.put ?_ (by omega) _ | with_reducible refine Kp.setN ?_ (by omega) _ | with_reducible refine Kp.keep ?_ _ | with_reducible refine Kp.setW ?_ (by simp; done) _) gH, (by repeat first | exact Kp.refl | assumption | with_reducible refine Kp.put ?_ (by omega) _ | with_reducible refine Kp.setN ?_ (by omega) _ | with_reducible refine Kp.keep ?_ _ | with_reducible refine Kp.setW ?_ (by simp; done) _), gH, gH, gH, (gN : _ = h.next + 1 + 1 + 1), gH⟩ ?_
 clear hc hob hob1 hkg hcb hrow
 rintro h3 ⟨g3, k3, r9, r13, r14, hn3, hc⟩
 have hob : h3.get (n.w.a + 10) = some (.mem 7 [wRow n.w x.s.n]) := g3.w.w.w
 simp only [wRow] at hob
 have hoo := g3.w.w.oo rfl
 have hlk := g3.w.w.lk
 simp only [encP] at r13
 simp only [encN, CaS.layN] at r14
 refine WW.dregA [16] [12, 17] [12] [3, 6, 7, 8, 10] [n.w.t, n.w.o] gN (by decide +kernel) ?_
 iterate 3 (refine DA.go ?_)
 refine DA.goF (hs := fun h2 hp2 => by apply Stp.load1; exact rfl; exact (hp2 _ (by omega) (by simp; omega)).trans gH; exact (by first | exact zk rfl rfl | exact z11 rfl | exact z6 (Nat.le_of_ble_eq_true rfl) (by first | (simp only [putC, AV.cs, encP, encN, encI, encS, encA, List.take_succ_cons, List.take_zero, List.take_nil, List.drop_succ_cons, List.drop_zero, List.drop_nil, List.cons_append, List.nil_append, List.append_nil, List.length_cons, List.length_nil, Nat.zero_add, Nat.add_zero, Nat.reduceAdd]; exact rfl) | exact rfl) | exact z6 (by simp) (by first | (simp only [putC, AV.cs, encP, encN, encI, encS, encA, List.take_succ_cons, List.take_zero, List.take_nil, List.drop_succ_cons, List.drop_zero, List.drop_nil, List.cons_append, List.nil_append, List.append_nil, List.length_cons, List.length_nil, Nat.zero_add, Nat.add_zero, Nat.reduceAdd]; exact rfl) | exact rfl)); exact gM) ?_
 iterate 2 (refine DA.go ?_)
 refine DA.goF (hs := fun h2 hp2 => by apply Stp.load1; exact rfl; exact (hp2 _ (by omega) (by simp; omega)).trans gH; exact (by first | exact zk rfl rfl | exact z11 rfl | exact z6 (Nat.le_of_ble_eq_true rfl) (by first | (simp only [putC, AV.cs, encP, encN, encI, encS, encA, List.take_succ_cons, List.take_zero, List.take_nil, List.drop_succ_cons, List.drop_zero, List.drop_nil, List.cons_append, List.nil_append, List.append_nil, List.length_cons, List.length_nil, Nat.zero_add, Nat.add_zero, Nat.reduceAdd]; exact rfl) | exact rfl) | exact z6 (by simp) (by first | (simp only [putC, AV.cs, encP, encN, encI, encS, encA, List.take_succ_cons, List.take_zero, List.take_nil, List.drop_succ_cons, List.drop_zero, List.drop_nil, List.cons_append, List.nil_append, List.append_nil, List.length_cons, List.length_nil, Nat.zero_add, Nat.add_zero, Nat.reduceAdd]; exact rfl) | exact rfl)); exact gM) ?_
 refine DA.goF (hs := fun h2 hp2 => by apply Stp.load1; exact rfl; exact (hp2 _ (by omega) (by simp; omega)).trans gH; exact (by first | exact zk rfl rfl | exact z11 rfl | exact z6 (Nat.le_of_ble_eq_true rfl) (by first | (simp only [putC, AV.cs, encP, encN, encI, encS, encA, List.take_succ_cons, List.take_zero, List.take_nil, List.drop_succ_cons, List.drop_zero, List.drop_nil, List.cons_append, List.nil_append, List.append_nil, List.length_cons, List.length_nil, Nat.zero_add, Nat.add_zero, Nat.reduceAdd]; exact rfl) | exact rfl) | exact z6 (by simp) (by first | (simp only [putC, AV.cs, encP, encN, encI, encS, encA, List.take_succ_cons, List.take_zero, List.take_nil, List.drop_succ_cons, List.drop_zero, List.drop_nil, List.cons_append, List.nil_append, List.append_nil, List.length_cons, List.length_nil, Nat.zero_add, Nat.add_zero, Nat.reduceAdd]; exact rfl) | exact rfl)); exact gM) ?_
 refine DA.goF (hs := fun h2 hp2 => by apply Stp.load1; exact rfl; exact (hp2 _ (by omega) (by simp; omega)).trans gH; exact (by first | exact zk rfl rfl | exact z11 rfl | exact z6 (Nat.le_of_ble_eq_true rfl) (by first | (simp only [putC, AV.cs, encP, encN, encI, encS, encA, List.take_succ_cons, List.take_zero, List.take_nil, List.drop_succ_cons, List.drop_zero, List.drop_nil, List.cons_append, List.nil_append, List.append_nil, List.length_cons, List.length_nil, Nat.zero_add, Nat.add_zero, Nat.reduceAdd]; exact rfl) | exact rfl) | exact z6 (by simp) (by first | (simp only [putC, AV.cs, encP, encN, encI, encS, encA, List.take_succ_cons, List.take_zero, List.take_nil, List.drop_succ_cons, List.drop_zero, List.drop_nil, List.cons_append, List.nil_append, List.append_nil, List.length_cons, List.length_nil, Nat.zero_add, Nat.add_zero, Nat.reduceAdd]; exact rfl) | exact rfl)); exact gM) ?_
 refine DA.go ?_
 refine DA.callF rfl gM gSL rfl rfl rfl (fun h2 _ => z9z lba hlba h2) (fun _ _ _ => rfl) ?_
 refine DA.go ?_
 have hLL : x.s.L.length ≤ 1000000 := by have := hx.st.fit.ll; omega
 have hpl : (putB lba 2).length ≤ 4000 := by simp [putB]
 refine DA.callSS (i1 := n.w.t) (i2 := n.w.o) (vs := [.ptr n.w.l 0 0, .agg (encP x.s.key), .agg (encN (x.layN f)), .imm 1 ((putB lba 2).map encB), .imm 1 (d.map encB)]) rfl gM gSL rfl rfl rfl (fun _ hp => PhiW.setW (by simp) (PhiW.setW (by simp) hp)) ⟨by omega, by omega⟩
  (fun h5 hs => z9s ((hlk.same ((hs.2 _ (by omega)).trans gE) (fun _ => ⟨(hs.2 _ (by omega)).trans gE, (hs.2 _ (by omega)).trans gE, (hs.2 _ (by omega)).trans gE⟩)).id rfl) hLL x.s.key (x.layN f) (putB lba 2) d hpl (by omega)) ?_
 (repeat first | refine DA.go ?_ | refine DA.goF ?_ | refine DA.new ?_ | refine DA.set ?_ | refine DA.endL ?_ | refine thenN ?_ | refine blkN ?_)
 have hto : n.w.t ≠ n.w.o := fun e => by
  obtain ⟨q0, q1, q2, q3⟩ := hlk.id rfl
  rw [e, q1] at q2; cases q2
 refine WW.named (fun h5 => CaG true h5 n { x with s := { x.s with L := x.s.L ++ [x.layI f lba d] }, j := x.j + 1 } ∧ Kp (fun id => n.w.own true id ∨ id = n.k) h h5 ∧ h5.get h.next = some (.mem 8 [[.int .i64 0, .bool false, .int .i64 0, .int .u32 0, .int .u32 0, .int .u64 0, .int .u64 0, .int .u64 0]]) ∧ h5.get (h.next + 2) = some (.mem 3 [encN (x.layN f)]) ∧ h5.get (h.next + 3) = some (.mem 3 [encS (x.layI f lba d).out (x.layI f lba d).tag]) ∧ h.next + 4 ≤ h5.next ∧ h5.get n.c = some (.mem 6 [[.ptr (n.w.a + 10) 0 0, .ptr n.k 0 0, v, .imm 8 (x.was.map encL), .ptr n.a 0 0, .bool x.bad]])) ⟨caG_w g3 (g3.w.reL (x.s.L ++ [x.layI f lba d]) (by repeat first | exact Kp.refl | assumption | with_reducible refine Kp.put ?_ (by omega) _ | with_reducible refine Kp.setN ?_ (by omega) _ | with_reducible refine Kp.keep ?_ _ | with_reducible refine Kp.setW ?_ (by simp; done) _) (fun _ => ⟨gH, by rw [List.length_append]; exact gH⟩) nofun) (((by repeat first | exact Kp.refl | assumption | with_reducible refine Kp.put ?_ (by omega) _ | with_reducible refine Kp.setN ?_ (by omega) _ | with_reducible refine Kp.keep ?_ _ | with_reducible refine Kp.setW ?_ (by simp; done) _) : Kp (fun id => id = n.w.o ∨ id = n.w.t) h3 _).mono fun id _ e => .inr (.inr ⟨rfl, e.elim .inl fun e => .inr (.inl e)⟩)), (k3.mono fun _ _ e => .inr e).trans (((by repeat first | exact Kp.refl | assumption | with_reducible refine Kp.put ?_ (by omega) _ | with_reducible refine Kp.setN ?_ (by omega) _ | with_reducible refine Kp.keep ?_ _ | with_reducible refine Kp.setW ?_ (by simp; done) _) : Kp (fun id => id = n.w.o ∨ id = n.w.t) h3 _).mono fun id _ e => .inl (.inr (.inr ⟨rfl, e.elim .inl fun e => .inr (.inl e)⟩))), gH, gH, gH, Nat.succ_le_of_lt zp5, gH⟩ ?_
 clear hc hob hlk g3 k3 r9 r13 r14 hto hoo hn3
 rintro h5 ⟨g5, k5, r9, r14, r16, hn5, hc⟩
 have hob : h5.get (n.w.a + 10) = some (.mem 7 [wRow n.w x.s.n]) := g5.w.w.w
 simp only [wRow] at hob
 have hfs := hx.st.fit
 have hfit : (f : Int) < x.s.n := by have := hx.l; omega
 have hol : (x.layI f lba d).out.length = 32 := by simp only [CaS.layI, newI, sealB, z7z]; exact hd
 have hin : inB x.s.sd.lasts.length ((f : Int) * 32) ((x.layI f lba d).out.length) = true := by
  have hgg := z2 hfs.g
  rw [hol, hfs.sd.len, zi hfs.g]
  simp [inB]; omega
 have hll : x.s.sd.lasts.length ≤ 1000000 := by
  have hgg := z2 hfs.g
  rw [hfs.sd.len, zi hfs.g]; omega
 generalize hI : x.layI f lba d = I at *
 (repeat first | refine WW.seq ?_ | refine WW.reg ?_ | refine WL.nil ?_ | refine WW.skip ?_ | refine WW.block ?_ | refine thenN ?_ | refine blkN ?_)
 refine WW.live fun hl5 => ?_
 refine WW.dregC 18 (by decide +kernel) ?_
 (repeat first | refine PW.go ?_ | refine PW.nil ?_)
 refine PW.call rfl gM gSL (zbu x.s.n f hfs.g ⟨by omega, hfit⟩ _) ?_
 (repeat first | refine PW.go ?_ | refine PW.nil ?_)
 refine RunL.call rfl gM gSL (z41 g5.w.w.sd hfs.pw (by omega) hll (Nat.le_trans hfs.sd.kw (by omega)) (Nat.le_trans hfs.sd.kt (by omega)) ((f : Int) * 32) I.out (by omega)) ?_
 rintro _ h6 ⟨rfl, e6⟩
 dsimp only at e6
 rw [hin, hcan] at e6 ⊢
 simp only [Bool.true_and, if_true] at e6
 have k6 : Kp (n.w.own true) h5 h6 := by rw [e6]; exact kp_sd n.w _ _
 have g6 : CaG true h6 n (x.lay f lba d) := by
  have gw : WG true h6 n.w (x.layW f lba d) := by
   rw [e6, CaS.layW, hI]
   exact g5.w.step (g5.w.w.putSd _ _) (kp_sd n.w _ _)
  exact caG_w g5 gw k6
 have hno : ∀ id, n.w.own true id → id < h.next := fun id hi => hnl _ (.inl (WN.own_all hi))
 have t9 := (k6.get _ (hl5 _ _ r9) fun q => by have := hno _ q; omega).trans r9
 have t14 := (k6.get _ (hl5 _ _ r14) fun q => by have := hno _ q; omega).trans r14
 have t16 := (k6.get _ (hl5 _ _ r16) fun q => by have := hno _ q; omega).trans r16
 have k7 : Kp (fun id => n.w.own true id ∨ id = n.k) h h6 := k5.trans (k6.mono fun _ _ q => .inl q)
 have hx6 := k6.next
 simp only [encN, CaS.layN] at t14
 simp only [encS] at t16
 clear hl5 r9 r14 r16 e6 hob hc g5 k5 k6
 (repeat first | refine RunL.go ?_ | refine RunL.endL ?_ | refine thenN ?_ | refine blkN ?_)
 (refine go ?_)
 have kt : Kp (fun id => id = h.next) h6 (h6.set h.next (some (.mem 8 [encL (x.layL f lba d dirty)]))) := Kp.cvt rfl rfl fun id hi => z1 hi rfl
 have hg9 := g6.kp kt (fun id hi e => by have := hnl id hi; omega) (fun id hi e => by have := hg.lt id hi; omega)
 have k9 := k7.trans2 kt fun id hi => .inr (by omega)
 have hle : encL (x.layL f lba d dirty) = [.int .i64 1, .bool dirty, .int .i64 lba, .int .u32 x.s.ks.cur, .int .u32 f, .int .u64 (x.boot * 4294967296 + ((x.j + 1 : Nat) : Int)), .int .u64 I.tag.1, .int .u64 I.tag.2] := by rw [← hI]; rfl
 rw [hle] at hg9 k9 ⊢
 exact WW.ret ⟨.inl rfl, _, gRES, rfl, hg9, k9⟩
end Go.Proofs.YthblcmnhiccnhaaGreat


namespace Go.Proofs.YthblcmnhiccnhaaGreat
open Go Go.Abs

def lessA (last : List Int) (arr : List Nat) (i j : Nat) : Bool := decide (last.getD (arr.getD i 0) 0 < last.getD (arr.getD j 0) 0)
def swapA (arr : List Nat) (i j : Nat) : List Nat := (arr.set i (arr.getD j 0)).set j (arr.getD i 0)
theorem zj {arr : List Nat} {i j : Nat} : (swapA arr i j).length = arr.length := by simp [swapA]
theorem z9g {arr : List Nat} {i : Nat} (h : i < arr.length) : arr.getD i 0 ∈ arr := by
 rw [List.getD_eq_getElem?_getD, List.getElem?_eq_getElem h]; exact List.getElem_mem h
theorem z7c {arr : List Nat} {i j : Nat} (hi : i < arr.length) (hj : j < arr.length) {x : Nat} (hx : x ∈ swapA arr i j) : x ∈ arr := by
 rcases List.mem_or_eq_of_mem_set hx with hx | rfl
 ·rcases List.mem_or_eq_of_mem_set hx with hx | rfl
  ·exact hx
  ·exact z9g hj
 ·exact z9g hi
theorem zns {last : List Int} {rest : List AV} {x : Nat} (hx : x < last.length) : (last.map (.int .i64 ·) ++ rest)[0 + x * 1]? = some (.int .i64 (last.getD x 0)) := by
 rw [Nat.zero_add, Nat.mul_one, List.getElem?_append_left (by simpa using hx), List.getElem?_map, List.getElem?_eq_getElem hx, List.getD_eq_getElem?_getD, List.getElem?_eq_getElem hx]
 rfl
theorem znt {arr : List Nat} {i : Nat} (hi : i < arr.length) : arr.getD i 0 = arr[0 + i]'(by omega) := by
 simp only [Nat.zero_add]
 rw [List.getD_eq_getElem?_getD, List.getElem?_eq_getElem hi]; rfl
theorem zm1 {arr : List Nat} {i : Nat} (hi : i < arr.length) : arr.getD i 0 = arr[i]'hi := by
 rw [List.getD_eq_getElem?_getD, List.getElem?_eq_getElem hi]; rfl
theorem znu {arr : List Nat} {i x : Nat} {y : Nat} : (arr.map encSl).set i (.int .i64 x :: List.drop 1 (encSl y)) = (arr.set i x).map encSl := by
 rw [List.map_set]; rfl
theorem zcb {arr : List Nat} {i : Nat} (hi : i < arr.length) : (arr.map encSl)[0 + i]? = some [.int .i64 (arr.getD i 0 : Nat)] := by
 rw [Nat.zero_add, List.getElem?_map, List.getElem?_eq_getElem hi, List.getD_eq_getElem?_getD, List.getElem?_eq_getElem hi]
 rfl
section
variable {h : AHeap} {a q E : Nat} {last : List Int} {rest : List AV} {arr : List Nat}
theorem zs3 (ha : h.get a = some (.mem 18 [last.map (.int .i64 ·) ++ rest])) (hl : last.length = 16) {x y : Nat} (hx : x < 16) (hy : y < 16) : AE Tryz.prog 125 [.ptr a 0 0, .int .i64 x, .int .i64 y] h (.bool (decide (last.getD x 0 < last.getD y 0))) h := by
 have g1 := zns (last := last) (rest := rest) (x := x) (by omega)
 have g2 := zns (last := last) (rest := rest) (x := y) (by omega)
 refine AE.pureW zec (by simp) ?_
 unfold z78; dsimp only [qQ, qR, qM, qG]
 (repeat first | refine WL.go ?_ | refine WW.seq ?_ | refine WW.reg ?_ | refine WL.nil ?_ | refine WW.skip ?_ | refine WW.block ?_ | refine WW.exit ?_ | refine WW.condT rfl ?_ | refine WW.condF rfl ?_ | refine WL.gox ?_ | refine thenN ?_ | refine blkN ?_)
 refine WW.dregX [] [] [] gN (by decide +kernel) ?_
 (refine go ?_)
 refine DW.go ?_ (hs := Stp.load1 rfl gH (zk g1 rfl) gM)
 (refine go ?_)
 refine DW.go ?_ (hs := Stp.load1 rfl gH (zk g2 rfl) gM)
 (refine go ?_)
 refine WW.ret (PureQ.finD ?_)
 exact fz_b rfl
theorem zjq (ha : h.get a = some (.mem 18 [last.map (.int .i64 ·) ++ rest])) (hl : last.length = 16) (hq : h.get q = some (.mem 2 [[.ref E 0 arr.length, agF a]])) (hE : h.get E = some (.mem 1 (arr.map encSl))) (ht : ∀ x ∈ arr, x < 16) {i j : Nat} (hi : i < arr.length) (hj : j < arr.length) : AE Tryz.prog 329 [.ptr q 0 0, .int .i64 i, .int .i64 j] h (.bool (lessA last arr i j)) h := by
 have hxi := ht _ (z9g hi)
 have hxj := ht _ (z9g hj)
 have g1 := zcb hi
 have g2 := zcb hj
 simp only [agF] at hq
 refine AE.pureW zco (by simp) ?_
 unfold z6l; dsimp only [qQ, qR, qM, qG]
 (repeat first | refine WL.go ?_ | refine WW.seq ?_ | refine WW.reg ?_ | refine WL.nil ?_ | refine WW.skip ?_ | refine WW.block ?_ | refine WW.exit ?_ | refine WW.condT rfl ?_ | refine WW.condF rfl ?_ | refine WL.gox ?_ | refine thenN ?_ | refine blkN ?_)
 refine WW.dregX [] [] [] gN (by decide +kernel) ?_
 (refine go ?_)
 rw [← znt hi, ← znt hj]
 refine DW.fxR (FX.callv rfl rfl gM (by kernel_rfl) (zs3 ha hl hxi hxj)) rfl rfl ?_
 (refine go ?_)
 refine WW.ret (PureQ.finD ?_)
 exact fz_b rfl
theorem zjr (hq : BoxAt h q (.mem 2 [[.ref E 0 arr.length, agF a]])) (hE : BoxAt h E (.mem 1 (arr.map encSl))) {i j : Nat} (hi : i < arr.length) (hj : j < arr.length) : AC Tryz.prog 332 [.ptr q 0 0, .int .i64 i, .int .i64 j] h (fun r h' => r = .tup [] ∧ BoxAt h' E (.mem 1 ((swapA arr i j).map encSl)) ∧ Kp (fun id => id = E) h h') := by
 have hqg := hq.g
 have hEg := hE.g
 simp only [agF] at hqg
 have g1 := zcb hi
 have g2 := zcb hj
 refine AC.introW zcq (by simp) ?_
 unfold z6n; dsimp only [qQ, qR, qM, qG]
 (repeat first | refine WL.go ?_ | refine WW.seq ?_ | refine WW.reg ?_ | refine WL.nil ?_ | refine WW.skip ?_ | refine WW.block ?_ | refine WW.exit ?_ | refine WW.condT rfl ?_ | refine WW.condF rfl ?_ | refine WL.gox ?_ | refine thenN ?_ | refine blkN ?_)
 refine WW.dregX [25, 27] [] [E] gN (by decide +kernel) ?_
 (refine go ?_)
 simp only [Nat.zero_add]
 rw [znu, ← zm1 hj, ← zm1 hi]
 have hls : (arr.set i (arr.getD j 0)).length = arr.length := List.length_set
 have hsw : (arr.set i (arr.getD j 0)).set j (arr.getD i 0) = swapA arr i j := rfl
 generalize arr.set i (arr.getD j 0) = arr1 at *
 (refine go ?_)
 rw [znu, hsw]
 exact ⟨by simp, _, gRES, rfl, ⟨by exact (Kp.setW (W := fun id => id = E) (Kp.setW (W := fun id => id = E) Kp.refl rfl _) rfl _).us _ hE.u, gH⟩, (by repeat first | exact Kp.refl | assumption | with_reducible refine Kp.put ?_ (by omega) _ | with_reducible refine Kp.setN ?_ (by omega) _ | with_reducible refine Kp.keep ?_ _ | with_reducible refine Kp.setW ?_ (by simp; done) _)⟩
end
end Go.Proofs.YthblcmnhiccnhaaGreat


namespace Go.Proofs.YthblcmnhiccnhaaGreat
open Go Go.Abs

def upA (last : List Int) : Nat → List Nat → Nat → List Nat
 | 0, arr, _ => arr
 | f + 1, arr, j => if j = 0 then arr else if lessA last arr j ((j - 1) / 2) then upA last f (swapA arr ((j - 1) / 2) j) ((j - 1) / 2) else arr
def downA (last : List Int) (n : Nat) : Nat → List Nat → Nat → List Nat × Nat
 | 0, arr, i => (arr, i)
 | f + 1, arr, i =>
  if n ≤ 2 * i + 1 then (arr, i)
  else
   let j := if 2 * i + 2 < n ∧ lessA last arr (2 * i + 2) (2 * i + 1) = true then 2 * i + 2 else 2 * i + 1
   if lessA last arr j i then downA last n f (swapA arr i j) j else (arr, i)
structure QuAt (h : AHeap) (a q E : Nat) (last : List Int) (arr : List Nat) : Prop where
 ob : ∃ t, BoxAt h a (.mem 18 [last.map (.int .i64 ·) ++ [.int .i64 t, .ptr q 0 0]])
 qo : BoxAt h q (.mem 2 [[.ref E 0 arr.length, agF a]])
 eo : BoxAt h E (.mem 1 (arr.map encSl))
 l : last.length = 16
 t : ∀ x ∈ arr, x < 16
 dj : a ≠ E ∧ q ≠ E
section
variable {h : AHeap} {a q E : Nat} {last : List Int} {arr : List Nat}
theorem QuAt.less (hq : QuAt h a q E last arr) {i j : Nat} (hi : i < arr.length) (hj : j < arr.length) : AE Tryz.prog 329 [.ptr q 0 0, .int .i64 i, .int .i64 j] h (.bool (lessA last arr i j)) h := by
 obtain ⟨t, ht⟩ := hq.ob
 exact zjq ht.g hq.l hq.qo.g hq.eo.g hq.t hi hj
theorem QuAt.swap (hq : QuAt h a q E last arr) {i j : Nat} (hi : i < arr.length) (hj : j < arr.length) : AC Tryz.prog 332 [.ptr q 0 0, .int .i64 i, .int .i64 j] h (fun r h' => r = .tup [] ∧ QuAt h' a q E last (swapA arr i j) ∧ Kp (fun id => id = E) h h') := by
 refine (zjr hq.qo hq.eo hi hj).mono ?_
 rintro r h' ⟨rfl, b, k⟩
 obtain ⟨t, ht⟩ := hq.ob
 exact ⟨rfl, ⟨⟨t, ht.kp k hq.dj.1⟩, by rw [zj]; exact hq.qo.kp k hq.dj.2, b, hq.l, fun x hx => hq.t x (z7c hi hj hx), hq.dj⟩, k⟩
theorem za1 {v : AV} {n : Nat} (hq : h.get q = some (.mem 2 [[v, agF a]])) (hv : (v = .nils ∧ n = 0) ∨ v = .ref E 0 n) : AE Tryz.prog 296 [.ptr q 0 0] h (.int .i64 n) h := by
 simp only [agF] at hq
 refine AE.pureW zed (by simp) ?_
 unfold z79; dsimp only [qQ, qR, qM, qG]
 rcases hv with ⟨rfl, rfl⟩ | rfl
 all_goals
  (refine go ?_)
  refine WW.ret (PureQ.finD ?_)
  exact fz_i rfl
theorem zs4 {j : Nat} (h : 0 < j) (hj : j ≤ 1000000) : binA .quo .i64 ((j : Int) - 1) 2 = some (.int .i64 (((j - 1) / 2 : Nat) : Int)) := by
 rw [show (j : Int) - 1 = ((j - 1 : Nat) : Int) by omega]
 exact div2 (by omega)
theorem zg2 (hq : QuAt h a q E last arr) {j : Nat} (hj : j < arr.length) (hl : arr.length ≤ 1000000) {f : Nat} (hf : j ≤ f) : AC Tryz.prog 191 [.iface 215 (.ptr q 0 0), .int .i64 j] h (fun r h' => r = .tup [] ∧ QuAt h' a q E last (upA last f arr j) ∧ Kp (fun id => id = E) h h') := by
 refine AC.introW z9c (by simp) ?_
 unfold z4g; dsimp only [qQ, qR, qM, qG]
 (refine go ?_)
 refine WW.loopE (fun (s : List Nat × Nat × Nat) => [(0, some (.iface 215 (.ptr q 0 0))), (1, some (.int .i64 s.2.1))])
  (fun s h' => QuAt h' a q E last s.1 ∧ Kp (fun id => id = E) h h' ∧ s.2.1 < s.1.length ∧ s.1.length = arr.length ∧ s.2.1 ≤ s.2.2 ∧ upA last s.2.2 s.1 s.2.1 = upA last f arr j) (fun s => s.2.1) (arr, j, f) gSUB ⟨hq, Kp.refl, hj, rfl, hf, rfl⟩ ?_
 rintro ⟨arr1, j1, f1⟩ h1 ⟨q1, k1, hj1, hl1, hf1, he1⟩
 dsimp only at q1 hj1 hl1 hf1 he1 ⊢
 (repeat first | refine WW.seq ?_ | refine WW.reg ?_ | refine WL.nil ?_ | refine WW.skip ?_ | refine WW.block ?_ | refine thenN ?_ | refine blkN ?_); iterate 2 (refine WL.go ?_)
 rcases Nat.eq_zero_or_pos j1 with rfl | hj0
 ·(refine go ?_)
  have e2 : upA last f1 arr1 0 = arr1 := by cases f1 <;> rfl
  rw [e2] at he1
  exact ⟨.inr rfl, _, gRES, rfl, he1 ▸ q1, k1⟩
 obtain ⟨f2, rfl⟩ : ∃ f2, f1 = f2 + 1 := ⟨f1 - 1, by omega⟩
 rw [upA, if_neg (by omega)] at he1
 refine WL.go (hs := Stp.bin rfl rfl (zs4 hj0 (by omega)) gM) ?_
 have hp : (j1 - 1) / 2 < j1 := by omega
 generalize (j1 - 1) / 2 = p at *
 (refine go ?_)
 (refine WL.spB rfl (fun hz1 => ?_) (fun hz1 => ?_))
 ·omega
 (refine go ?_)
 refine WL.fx1 (FX.inv rfl rfl gM (f := 329) (by kernel_rfl) (by kernel_rfl) (q1.less hj1 (show p < arr1.length by omega))) ?_
 cases hls : lessA last arr1 j1 p with
 | false =>
  (refine go ?_)
  rw [hls, if_neg (by simp)] at he1
  exact ⟨.inr rfl, _, gRES, rfl, he1 ▸ q1, k1⟩
 | true =>
  rw [hls, if_pos rfl] at he1
  (refine go ?_)
  refine WL.fxr (FXR.inv rfl rfl gM (f := 332) (by kernel_rfl) (by kernel_rfl) (q1.swap (show p < arr1.length by omega) hj1)) ?_
  rintro _ h2 ⟨_, rfl, rfl, q2, k2⟩
  (refine go ?_)
  exact ⟨(swapA arr1 p j1, p, f2), gSUB, ⟨q2, k1.trans k2, by rw [zj]; dsimp only; omega, by rw [zj]; exact hl1, by dsimp only; omega, he1⟩, hp⟩
set_option maxHeartbeats 2000000 in
theorem zm2 (hq : QuAt h a q E last arr) {i n : Nat} (hi : i < arr.length) (hn : n ≤ arr.length) (hl : arr.length ≤ 1000000) {f : Nat} (hf : n ≤ i + f) : AC Tryz.prog 249 [.iface 215 (.ptr q 0 0), .int .i64 i, .int .i64 n] h (fun r h' => r = .bool (decide (i < (downA last n f arr i).2)) ∧ QuAt h' a q E last (downA last n f arr i).1 ∧ (downA last n f arr i).1.length = arr.length ∧ Kp (fun id => id = E) h h') := by
 refine AC.introW z7m (by simp) ?_
 unfold z3q; dsimp only [qQ, qR, qM, qG]
 (refine go ?_)
 refine WW.loopE (fun (s : List Nat × Nat × Nat) => [(0, some (.iface 215 (.ptr q 0 0))), (1, some (.int .i64 i)), (2, some (.int .i64 n)), (7, some (.int .i64 s.2.1))])
  (fun s h' => QuAt h' a q E last s.1 ∧ Kp (fun id => id = E) h h' ∧ s.2.1 < s.1.length ∧ s.1.length = arr.length ∧ n ≤ s.2.1 + s.2.2 ∧ downA last n s.2.2 s.1 s.2.1 = downA last n f arr i) (fun s => s.1.length - s.2.1) (arr, i, f) gSUB ⟨hq, Kp.refl, hi, rfl, hf, rfl⟩ ?_
 rintro ⟨arr1, i1, f1⟩ h1 ⟨q1, k1, hi1, hl1, hf1, he1⟩
 dsimp only at q1 hi1 hl1 hf1 he1 ⊢
 have hgt : ((i1 : Int) > (i : Int)) = (i < i1) := by simp
 (refine go ?_)
 (refine WL.spB rfl (fun hz1 => ?_) (fun hz1 => ?_))
 ·have e2 : downA last n f1 arr1 i1 = (arr1, i1) := by
   cases f1 with
   | zero => rfl
   | succ f2 => rw [downA, if_pos (by omega)]
  rw [e2] at he1
  (refine go ?_)
  rw [← he1]
  exact WW.ret ⟨.inl rfl, _, gRES, by simp [Go.Abs.fin], q1, hl1, k1⟩
 obtain ⟨f2, rfl⟩ : ∃ f2, f1 = f2 + 1 := ⟨f1 - 1, by omega⟩
 rw [downA, if_neg (by omega)] at he1
 dsimp only at he1
 (refine go ?_)
 have a1 : ∀ (x y : Nat) (u v : Int), u = x → v = y → x < arr1.length → y < arr1.length → AE Tryz.prog 329 [.ptr q 0 0, .int .i64 u, .int .i64 v] h1 (.bool (lessA last arr1 x y)) h1 := fun x y u v hu hv hx hy => by
  rw [hu, hv]; exact q1.less hx hy
 generalize hjj : (if 2 * i1 + 2 < n ∧ lessA last arr1 (2 * i1 + 2) (2 * i1 + 1) = true then 2 * i1 + 2 else 2 * i1 + 1) = J at he1
 have u1 : (2 * (i1 : Int) + 1 + 1) = ((2 * i1 + 2 : Nat) : Int) := by omega
 have u2 : (2 * (i1 : Int) + 1) = ((2 * i1 + 1 : Nat) : Int) := by omega
 (refine WL.spB rfl (fun hz2 => ?_) (fun hz2 => ?_))
 ·(refine go ?_)
  refine WL.fx1 (FX.inv rfl rfl gM (f := 329) (by kernel_rfl) (by kernel_rfl) (a1 (2 * i1 + 2) (2 * i1 + 1) _ _ (by omega) (by omega) (by omega) (by omega))) ?_
  rw [u1, u2]
  cases hls : lessA last arr1 (2 * i1 + 2) (2 * i1 + 1)
  ·rw [if_neg (by rw [hls]; simp)] at hjj
   rw [hjj]
   have a2 := a1 J i1 (J : Int) (i1 : Int) rfl rfl (by omega) hi1
   (refine go ?_)
   refine WL.fx1 (FX.inv rfl rfl gM (f := 329) (by kernel_rfl) (by kernel_rfl) a2) ?_
   cases hl3 : lessA last arr1 J i1 with
   | false =>
    rw [hl3, if_neg (by simp)] at he1
    (refine go ?_)
    rw [← he1]
    exact WW.ret ⟨.inl rfl, _, gRES, by simp [Go.Abs.fin], q1, hl1, k1⟩
   | true =>
    rw [hl3, if_pos rfl] at he1
    (refine go ?_)
    refine WL.fxr (FXR.inv rfl rfl gM (f := 332) (by kernel_rfl) (by kernel_rfl) (q1.swap hi1 (show J < arr1.length by omega))) ?_
    rintro _ h2 ⟨_, rfl, rfl, q2, k2⟩
    (refine go ?_)
    exact ⟨(swapA arr1 i1 J, J, f2), gSUB, ⟨q2, k1.trans k2, by rw [zj]; dsimp only; omega, by rw [zj]; exact hl1, by dsimp only; omega, he1⟩, by rw [zj]; dsimp only; omega⟩
  ·rw [if_pos ⟨by omega, hls⟩] at hjj
   rw [hjj]
   have a2 := a1 J i1 (J : Int) (i1 : Int) rfl rfl (by omega) hi1
   (refine go ?_)
   refine WL.fx1 (FX.inv rfl rfl gM (f := 329) (by kernel_rfl) (by kernel_rfl) a2) ?_
   cases hl3 : lessA last arr1 J i1 with
   | false =>
    rw [hl3, if_neg (by simp)] at he1
    (refine go ?_)
    rw [← he1]
    exact WW.ret ⟨.inl rfl, _, gRES, by simp [Go.Abs.fin], q1, hl1, k1⟩
   | true =>
    rw [hl3, if_pos rfl] at he1
    (refine go ?_)
    refine WL.fxr (FXR.inv rfl rfl gM (f := 332) (by kernel_rfl) (by kernel_rfl) (q1.swap hi1 (show J < arr1.length by omega))) ?_
    rintro _ h2 ⟨_, rfl, rfl, q2, k2⟩
    (refine go ?_)
    exact ⟨(swapA arr1 i1 J, J, f2), gSUB, ⟨q2, k1.trans k2, by rw [zj]; dsimp only; omega, by rw [zj]; exact hl1, by dsimp only; omega, he1⟩, by rw [zj]; dsimp only; omega⟩
 ·rw [if_neg (by omega)] at hjj
  rw [u1, u2, hjj]
  have a2 := a1 J i1 (J : Int) (i1 : Int) rfl rfl (by omega) hi1
  (refine go ?_)
  refine WL.fx1 (FX.inv rfl rfl gM (f := 329) (by kernel_rfl) (by kernel_rfl) a2) ?_
  cases hl3 : lessA last arr1 J i1 with
  | false =>
   rw [hl3, if_neg (by simp)] at he1
   (refine go ?_)
   rw [← he1]
   exact WW.ret ⟨.inl rfl, _, gRES, by simp [Go.Abs.fin], q1, hl1, k1⟩
  | true =>
   rw [hl3, if_pos rfl] at he1
   (refine go ?_)
   refine WL.fxr (FXR.inv rfl rfl gM (f := 332) (by kernel_rfl) (by kernel_rfl) (q1.swap hi1 (show J < arr1.length by omega))) ?_
   rintro _ h2 ⟨_, rfl, rfl, q2, k2⟩
   (refine go ?_)
   exact ⟨(swapA arr1 i1 J, J, f2), gSUB, ⟨q2, k1.trans k2, by rw [zj]; dsimp only; omega, by rw [zj]; exact hl1, by dsimp only; omega, he1⟩, by rw [zj]; dsimp only; omega⟩
end
end Go.Proofs.YthblcmnhiccnhaaGreat


namespace Go.Proofs.YthblcmnhiccnhaaGreat
open Go Go.Abs

theorem zin {last : List Int} {n : Nat} : ∀ (f : Nat) (arr : List Nat) (i : Nat), i < arr.length → n ≤ arr.length → ((downA last n f arr i).1.length = arr.length ∧ (downA last n f arr i).2 < arr.length ∧ ∀ x ∈ (downA last n f arr i).1, x ∈ arr)
 | 0, arr, i, hi, _ => ⟨rfl, hi, fun _ h => h⟩
 | f + 1, arr, i, hi, hn => by
  rw [downA]
  split
  ·exact ⟨rfl, hi, fun _ h => h⟩
  ·dsimp only
   generalize hj : (if 2 * i + 2 < n ∧ lessA last arr (2 * i + 2) (2 * i + 1) = true then 2 * i + 2 else 2 * i + 1) = j
   have hjn : j < n := by split at hj <;> omega
   split
   ·obtain ⟨h1, h2, h3⟩ := zin f (swapA arr i j) j (by rw [zj]; omega) (by rw [zj]; exact hn)
    rw [zj] at h1 h2
    exact ⟨h1, h2, fun x hx => z7c hi (by omega) (h3 x hx)⟩
   ·exact ⟨rfl, hi, fun _ h => h⟩
theorem zcc {last : List Int} : ∀ (f : Nat) (arr : List Nat) (j : Nat), j < arr.length → ((upA last f arr j).length = arr.length ∧ ∀ x ∈ upA last f arr j, x ∈ arr)
 | 0, arr, j, _ => ⟨rfl, fun _ h => h⟩
 | f + 1, arr, j, hj => by
  rw [upA]
  split
  ·exact ⟨rfl, fun _ h => h⟩
  ·split
   ·have hp : (j - 1) / 2 < arr.length := by omega
    obtain ⟨h1, h2⟩ := zcc f (swapA arr ((j - 1) / 2) j) ((j - 1) / 2) (by rw [zj]; exact hp)
    rw [zj] at h1
    exact ⟨h1, fun x hx => z7c hp hj (h2 x hx)⟩
   ·exact ⟨rfl, fun _ h => h⟩
def pushA (last : List Int) (arr : List Nat) (x : Nat) : List Nat := upA last arr.length (arr ++ [x]) arr.length
def remA' (last : List Int) (arr : List Nat) (i : Nat) : List Nat :=
 if arr.length - 1 = i then arr
 else
  let d := downA last (arr.length - 1) (arr.length - 1) (swapA arr i (arr.length - 1)) i
  if i < d.2 then d.1 else upA last i d.1 i
def remA (last : List Int) (arr : List Nat) (i : Nat) : List Nat := (remA' last arr i).take (arr.length - 1)
theorem zbv {last : List Int} {arr : List Nat} {i : Nat} (hi : i < arr.length) : (remA' last arr i).length = arr.length ∧ ∀ x ∈ remA' last arr i, x ∈ arr := by
 rw [remA']
 split
 ·exact ⟨rfl, fun _ h => h⟩
 ·dsimp only
  obtain ⟨h1, h2, h3⟩ := zin (last := last) (n := arr.length - 1) (arr.length - 1) (swapA arr i (arr.length - 1)) i (by rw [zj]; exact hi) (by rw [zj]; omega)
  rw [zj] at h1 h2
  have h4 : ∀ x ∈ (downA last (arr.length - 1) (arr.length - 1) (swapA arr i (arr.length - 1)) i).1, x ∈ arr := fun x hx => z7c hi (by omega) (h3 x hx)
  split
  ·exact ⟨h1, h4⟩
  ·obtain ⟨h5, h6⟩ := zcc (last := last) i (downA last (arr.length - 1) (arr.length - 1) (swapA arr i (arr.length - 1)) i).1 i (by rw [h1]; exact hi)
   exact ⟨h5.trans h1, fun x hx => h4 x (h6 x hx)⟩
section
variable {h : AHeap} {a q E : Nat} {last : List Int} {arr : List Nat}
theorem zjs {v : AV} (hv : SlV h v arr E) (hqE : q ≠ E) (hl : arr.length ≤ 1000000) (hq : BoxAt h q (.mem 2 [[v, agF a]])) (x : Nat) : AC Tryz.prog 331 [.ptr q 0 0, .iface 3 (.int .i64 x)] h (fun r h' => r = .tup [] ∧ h.next < h'.next ∧ BoxAt h' h.next (.mem 1 ((arr ++ [x]).map encSl)) ∧ BoxAt h' q (.mem 2 [[.ref h.next 0 (arr.length + 1), agF a]]) ∧ Kp (fun id => id = q ∨ id = E) h h') := by
 have hqg := hq.g
 simp only [agF] at hqg
 have hql := hq.u.1
 refine AC.introW zcp (by simp) ?_
 unfold z6m; dsimp only [qQ, qR, qM, qG]
 rcases hv with ⟨rfl, rfl⟩ | ⟨rfl, hE⟩
 ·(refine go ?_)
  refine WL.fx1 (FX.rawN (XOK.asrt rfl) gM) ?_
  (repeat first | refine WW.seq ?_ | refine WW.reg ?_ | refine WL.nil ?_ | refine WW.skip ?_ | refine WW.block ?_ | refine thenN ?_ | refine blkN ?_); iterate 5 (refine WL.go ?_)
  (repeat first | refine WW.seq ?_ | refine WW.reg ?_ | refine WL.nil ?_ | refine WW.skip ?_ | refine WW.block ?_ | refine thenN ?_ | refine blkN ?_); iterate 7 (refine WL.go ?_)
  refine WL.fx1 (FX.appM (nm := h.next) (c := [[.int .i64 x]]) (fun hu => Nat.lt_irrefl _ hu.1) rfl rfl rfl (by simp) (by simp) gM) ?_
  refine WL.live fun hl => ?_
  have b1 : BoxAt (h.put h.next (.mem 1 [[.int .i64 x]])) h.next (.mem 1 [[.int .i64 x]]) := ⟨z3, gH⟩
  (refine go ?_)
  have kp : Kp (fun id => id = q ∨ id = E) h ((h.put h.next (.mem 1 [[.int .i64 x]])).set q (some (.mem 2 [[.ref h.next 0 1, agF a]]))) := Kp.setW (W := fun id => id = q ∨ id = E) (Kp.put Kp.refl (Nat.le_refl _) _) (.inl rfl) _
  exact ⟨.inr rfl, _, gRES, rfl, (ltN gN (by omega)), ⟨by exact b1.u, gH⟩, ⟨kp.us _ hq.u, gH⟩, kp⟩
 ·have hEg := hE.g
  have hEl := hE.u.1
  (refine go ?_)
  refine WL.fx1 (FX.rawN (XOK.asrt rfl) gM) ?_
  (repeat first | refine WW.seq ?_ | refine WW.reg ?_ | refine WL.nil ?_ | refine WW.skip ?_ | refine WW.block ?_ | refine thenN ?_ | refine blkN ?_); iterate 5 (refine WL.go ?_)
  (repeat first | refine WW.seq ?_ | refine WW.reg ?_ | refine WL.nil ?_ | refine WW.skip ?_ | refine WW.block ?_ | refine thenN ?_ | refine blkN ?_); iterate 7 (refine WL.go ?_)
  refine WL.fx1 (FX.appR (nm := h.next) (c2 := [[.int .i64 x]]) (fun hu => Nat.lt_irrefl _ hu.1) rfl gH (List.length_map _) rfl rfl (by simp) (by simp; omega) gM) ?_
  have hm2 : arr.map encSl ++ [[AV.int .i64 x]] = (arr ++ [x]).map encSl := by simp [encSl]
  rw [hm2]
  have b1 : BoxAt ((h.set E none).put h.next (.mem 1 ((arr ++ [x]).map encSl))) h.next (.mem 1 ((arr ++ [x]).map encSl)) := ⟨z3 (x := .tail 0 0), gH⟩
  (refine go ?_)
  have kp : Kp (fun id => id = q ∨ id = E) h (((h.set E none).put h.next (.mem 1 ((arr ++ [x]).map encSl))).set q (some (.mem 2 [[.ref h.next 0 (arr.length + 1), agF a]]))) := Kp.setW (W := fun id => id = q ∨ id = E) (Kp.put (Kp.setW (W := fun id => id = q ∨ id = E) Kp.refl (.inr rfl) _) (Nat.le_refl _) _) (.inl rfl) _
  exact ⟨.inr rfl, _, gRES, rfl, (ltN gN (by omega)), ⟨by exact b1.u, gH⟩, ⟨kp.us _ hq.u, gH⟩, kp⟩
theorem z6p (hq : BoxAt h q (.mem 2 [[.ref E 0 arr.length, agF a]])) (hE : BoxAt h E (.mem 1 (arr.map encSl))) (hqE : q ≠ E) (hl : 0 < arr.length ∧ arr.length ≤ 1000000) : AC Tryz.prog 330 [.ptr q 0 0] h (fun r h' => ∃ x : Nat, r = .iface 3 (.int .i64 x) ∧ h.next < h'.next ∧ BoxAt h' h.next (.mem 1 ((arr.take (arr.length - 1)).map encSl)) ∧ BoxAt h' q (.mem 2 [[.ref h.next 0 (arr.length - 1), agF a]]) ∧ Kp (fun id => id = q ∨ id = E) h h') := by
 have hqg := hq.g
 simp only [agF] at hqg
 have hql := hq.u.1
 have hEg := hE.g
 have hEl := hE.u.1
 refine AC.introW zee (by simp) ?_
 unfold z7a; dsimp only [qQ, qR, qM, qG]
 (repeat first | refine WW.seq ?_ | refine WW.reg ?_ | refine WL.nil ?_ | refine WW.skip ?_ | refine WW.block ?_ | refine thenN ?_ | refine blkN ?_); iterate 1 (refine WL.go ?_)
 (repeat first | refine WW.seq ?_ | refine WW.reg ?_ | refine WL.nil ?_ | refine WW.skip ?_ | refine WW.block ?_ | refine thenN ?_ | refine blkN ?_); iterate 7 (refine WL.go ?_)
 rw [show ((arr.length : Int) - 1) = ((arr.length - 1 : Nat) : Int) by omega]
 obtain ⟨m, hm⟩ : ∃ m, arr.length - 1 = m := ⟨_, rfl⟩
 rw [hm]
 (repeat first | refine WW.seq ?_ | refine WW.reg ?_ | refine WL.nil ?_ | refine WW.skip ?_ | refine WW.block ?_ | refine thenN ?_ | refine blkN ?_); iterate 8 (refine WL.go ?_)
 (repeat first | refine WW.seq ?_ | refine WW.reg ?_ | refine WL.nil ?_ | refine WW.skip ?_ | refine WW.block ?_ | refine thenN ?_ | refine blkN ?_); iterate 7 (refine WL.go ?_)
 refine WL.cvt (Cvt.trim (s := 24) (id := E) (n := m) (c' := (arr.take m).map encSl) rfl gH (by simp; omega) (by rw [List.map_take]) rfl) ?_
 have b1 : BoxAt ((h.set E none).put h.next (.mem 1 ((arr.take m).map encSl))) h.next (.mem 1 ((arr.take m).map encSl)) := ⟨z3 (x := .tail 0 0), gH⟩
 (refine go ?_)
 refine WL.fx1 (FX.rawN (XOK.mkif rfl) gM) ?_
 (refine go ?_)
 have kp : Kp (fun id => id = q ∨ id = E) h (((h.set E none).put h.next (.mem 1 ((arr.take m).map encSl))).set q (some (.mem 2 [[.ref h.next 0 m, agF a]]))) := Kp.setW (W := fun id => id = q ∨ id = E) (Kp.put (Kp.setW (W := fun id => id = q ∨ id = E) Kp.refl (.inr rfl) _) (Nat.le_refl _) _) (.inl rfl) _
 exact WW.ret ⟨.inl rfl, _, gRES, _, rfl, (ltN gN (by omega)), ⟨by exact b1.u, gH⟩, ⟨kp.us _ hq.u, gH⟩, kp⟩
def ixN (arr : List Nat) (x : Nat) : Int := if arr.findIdx (· == x) < arr.length then (arr.findIdx (· == x) : Int) else -1
theorem zef {v : AV} (hv : SlV h v arr E) (hl : arr.length ≤ 1000000) (x : Nat) : AE Tryz.prog 189 [v, .int .i64 x] h (.int .i64 (ixN arr x)) h := by
 rcases hv with ⟨rfl, rfl⟩ | ⟨rfl, hE⟩
 ·refine AE.pureW z3c (by simp) ?_
  unfold z24; dsimp only [qQ, qR, qM, qG]
  (refine go ?_)
  refine WW.loopE (fun (_ : Unit) => [(7, some (.int .i64 0)), (8, some (.int .i64 0))]) (fun _ h' => h' = h) (fun _ => 0) () gSUB rfl ?_
  rintro i h' rfl
  (refine go ?_)
  refine WW.ret (PureQ.finD ?_)
  exact fz_i rfl
 ·have hEg := hE.g
  refine AE.pureW z3c (by simp) ?_
  unfold z24; dsimp only [qQ, qR, qM, qG]
  (refine go ?_)
  refine WW.loopE (fun (i : Nat) => [(0, some (.ref E 0 arr.length)), (1, some (.int .i64 x)), (7, some (.int .i64 arr.length)), (8, some (.int .i64 i))]) (fun i h' => h' = h ∧ i ≤ arr.length ∧ i ≤ arr.findIdx (· == x)) (fun i => arr.length - i) 0 gSUB ⟨rfl, Nat.zero_le _, Nat.zero_le _⟩ ?_
  rintro i h' ⟨rfl, c1, c2⟩
  (refine go ?_)
  (refine WW.ifB rfl (fun hz1 => ?_) (fun hz1 => ?_))
  ·have hi : i < arr.length := by omega
   (refine go ?_)
   simp only [Nat.zero_add]
   (refine WW.ifB rfl (fun hz2 => ?_) (fun hz2 => ?_))
   ·(refine go ?_)
    refine WW.ret (PureQ.finD ?_)
    have hp : (arr[i] == x) = true := by rw [beq_iff_eq]; omega
    have he : arr.findIdx (· == x) = i := by
     rcases Nat.lt_or_ge i (arr.findIdx (· == x)) with h1 | h1
     ·have := List.not_of_lt_findIdx h1; rw [hp] at this; simp at this
     ·omega
    rw [ixN, he, if_pos hi]
    exact fz_i rfl
   ·(refine go ?_)
    refine ⟨i + 1, gSUB, ⟨rfl, by omega, ?_⟩, by omega⟩
    rcases Nat.lt_or_ge i (arr.findIdx (· == x)) with h1 | h1
    ·exact h1
    ·have he : arr.findIdx (· == x) = i := by omega
     have := List.findIdx_getElem (p := (· == x)) (w := by rw [he]; exact hi)
     simp only [he] at this
     simp only [beq_iff_eq] at this
     omega
  ·(refine go ?_)
   refine WW.ret (PureQ.finD ?_)
   rw [ixN, if_neg (by omega)]
   exact fz_i rfl
set_option maxHeartbeats 1000000 in
theorem zhd (hq : QuAt h a q E last arr) {i : Nat} (hi : i < arr.length) (hl : arr.length ≤ 1000000) : AC Tryz.prog 190 [.iface 215 (.ptr q 0 0), .int .i64 i] h (fun r h' => (∃ x : Nat, r = .iface 3 (.int .i64 x)) ∧ ∃ E', h.next ≤ E' ∧ E' < h'.next ∧ BoxAt h' E' (.mem 1 ((remA last arr i).map encSl)) ∧ BoxAt h' q (.mem 2 [[.ref E' 0 (arr.length - 1), agF a]]) ∧ Kp (fun id => id = q ∨ id = E) h h') := by
 have hrl := (zbv (last := last) hi).1
 refine AC.introW z6j (by simp) ?_
 unfold z36; dsimp only [qQ, qR, qM, qG]
 (repeat first | refine WW.seq ?_ | refine WW.reg ?_ | refine WL.nil ?_ | refine WW.skip ?_ | refine WW.block ?_ | refine thenN ?_ | refine blkN ?_); iterate 1 (refine WL.go ?_)
 (repeat first | refine WW.seq ?_ | refine WW.reg ?_ | refine WL.nil ?_ | refine WW.skip ?_ | refine WW.block ?_ | refine thenN ?_ | refine blkN ?_); iterate 1 (refine WL.go ?_)
 refine WL.fx1 (FX.inv rfl rfl gM (f := 296) (by kernel_rfl) (by kernel_rfl) (za1 (E := E) hq.qo.g (.inr rfl))) ?_
 (repeat first | refine WW.seq ?_ | refine WW.reg ?_ | refine WL.nil ?_ | refine WW.skip ?_ | refine WW.block ?_ | refine thenN ?_ | refine blkN ?_); iterate 2 (refine WL.go ?_)
 rw [show ((arr.length : Int) - 1) = ((arr.length - 1 : Nat) : Int) by omega]
 obtain ⟨m, hm⟩ : ∃ m, arr.length - 1 = m := ⟨_, rfl⟩
 rw [hm]
 (refine go ?_)
 (refine WW.ifB rfl (fun hz1 => ?_) (fun hz1 => ?_))
 ·have hne : ¬ m = i := by first | omega | (simp only [bne_iff_ne, ne_eq] at hz1; omega)
  have er : remA' last arr i = (if i < (downA last m m (swapA arr i m) i).2 then (downA last m m (swapA arr i m) i).1 else upA last i (downA last m m (swapA arr i m) i).1 i) := by
   rw [remA', hm, if_neg hne]
  (refine go ?_)
  refine WL.fxr (FXR.inv rfl rfl gM (f := 332) (by kernel_rfl) (by kernel_rfl) (hq.swap hi (show m < arr.length by omega))) ?_
  rintro _ h2 ⟨_, rfl, rfl, q2, k2⟩
  have hl2 : (swapA arr i m).length = arr.length := zj
  generalize swapA arr i m = arr2 at *
  (refine go ?_)
  refine WL.callA rfl gM gSL (zm2 q2 (i := i) (n := m) (by omega) (by omega) (by omega) (f := m) (by omega)) ?_
  rintro _ h3 ⟨rfl, q3, l3, k3⟩
  generalize downA last m m arr2 i = dd at *
  have k23 := k2.trans k3
  cases hlt : decide (i < dd.2) with
  | true =>
   rw [if_pos (of_decide_eq_true hlt)] at er
   (refine go ?_)
   refine WL.fxr (FXR.inv rfl rfl gM (f := 330) (by kernel_rfl) (by kernel_rfl) (z6p q3.qo q3.eo q3.dj.2 (by omega))) ?_
   rintro _ h4 ⟨_, rfl, x, rfl, hx4, b4, q4, k4⟩
   (refine go ?_)
   refine WW.ret ⟨.inl rfl, _, gRES, ⟨x, rfl⟩, h3.next, k23.next, hx4, ?_, ?_, (k23.mono fun _ _ e => .inr e).trans k4⟩
   ·rw [remA, er, hm]; rw [show dd.1.length - 1 = m by omega] at b4; exact b4
   ·rw [show dd.1.length - 1 = m by omega] at q4; exact q4
  | false =>
   rw [if_neg (of_decide_eq_false hlt)] at er
   (refine go ?_)
   refine WL.callA rfl gM gSL (zg2 q3 (j := i) (by omega) (by omega) (f := i) (by omega)) ?_
   rintro _ h3' ⟨rfl, q3', k3'⟩
   rw [← er] at q3'
   have k23 := k23.trans k3'
   (refine go ?_)
   refine WL.fxr (FXR.inv rfl rfl gM (f := 330) (by kernel_rfl) (by kernel_rfl) (z6p q3'.qo q3'.eo q3'.dj.2 (by omega))) ?_
   rintro _ h4 ⟨_, rfl, x, rfl, hx4, b4, q4, k4⟩
   (refine go ?_)
   refine WW.ret ⟨.inl rfl, _, gRES, ⟨x, rfl⟩, h3'.next, k23.next, hx4, ?_, ?_, (k23.mono fun _ _ e => .inr e).trans k4⟩
   ·rw [remA, hm]; rw [hrl, hm] at b4; exact b4
   ·rw [hrl, hm] at q4; exact q4
 ·have hne : m = i := by first | omega | (simp only [bne_iff_ne, ne_eq] at hz1; omega)
  have er : remA' last arr i = arr := by rw [remA', hm, if_pos hne]
  (refine go ?_)
  refine WL.fxr (FXR.inv rfl rfl gM (f := 330) (by kernel_rfl) (by kernel_rfl) (z6p hq.qo hq.eo hq.dj.2 (by omega))) ?_
  rintro _ h4 ⟨_, rfl, x, rfl, hx4, b4, q4, k4⟩
  (refine go ?_)
  refine WW.ret ⟨.inl rfl, _, gRES, ⟨x, rfl⟩, h.next, Nat.le_refl _, hx4, ?_, ?_, k4⟩
  ·rw [remA, er, hm]; rw [hm] at b4; exact b4
  ·rw [hm] at q4; exact q4
end
end Go.Proofs.YthblcmnhiccnhaaGreat


namespace Go.Proofs.YthblcmnhiccnhaaGreat
open Go Go.Abs

def AgS.has (s : AgS) (x : Nat) : Bool := decide (s.arr.findIdx (· == x) < s.arr.length)
def AgS.drop (s : AgS) (x : Nat) : AgS := if s.has x then { s with arr := remA s.last s.arr (s.arr.findIdx (· == x)) } else s
def AgS.touch (s : AgS) (x : Nat) : AgS := let d := s.drop x; ⟨d.last.set x (d.ticks + 1), d.ticks + 1, pushA (d.last.set x (d.ticks + 1)) d.arr x⟩
structure AgOk (s : AgS) (k : Nat) : Prop where
 l : s.last.length = 16
 t : ∀ x ∈ s.arr, x < 16
 n : s.arr.length ≤ k
 tk : 0 ≤ s.ticks ∧ s.ticks ≤ k
section
variable {s : AgS} {k : Nat}
theorem agOk0 : AgOk ag0 0 := ⟨rfl, by simp [ag0], Nat.le_refl _, by decide, by decide⟩
theorem AgOk.mono (h : AgOk s k) {k' : Nat} (hk : k ≤ k') : AgOk s k' := ⟨h.l, h.t, Nat.le_trans h.n hk, h.tk.1, by have := h.tk.2; omega⟩
theorem AgOk.drop (h : AgOk s k) (x : Nat) : AgOk (s.drop x) k := by
 rw [AgS.drop]
 split
 ·rename_i hx
  have hi : s.arr.findIdx (· == x) < s.arr.length := of_decide_eq_true hx
  obtain ⟨h1, h2⟩ := zbv (last := s.last) hi
  have h3 := h.n
  exact ⟨h.l, fun y hy => h.t y (h2 y (List.mem_of_mem_take hy)), by show (remA _ _ _).length ≤ k; rw [remA, List.length_take]; omega, h.tk⟩
 ·exact h
theorem AgOk.touch (h : AgOk s k) {x : Nat} (hx : x < 16) : AgOk (s.touch x) (k + 1) := by
 have hd := h.drop x
 have h1 := hd.n
 have h2 := hd.tk
 obtain ⟨h3, h4⟩ := zcc (last := (s.drop x).last.set x ((s.drop x).ticks + 1)) (s.drop x).arr.length ((s.drop x).arr ++ [x]) (s.drop x).arr.length (by simp)
 refine ⟨?_, fun y hy => ?_, ?_, ?_⟩
 ·show ((s.drop x).last.set x _).length = 16
  rw [List.length_set]; exact hd.l
 ·rcases List.mem_append.1 (h4 y hy) with hy | hy
  ·exact hd.t y hy
  ·rw [List.mem_singleton.1 hy]; exact hx
 ·show (upA _ _ _ _).length ≤ _
  rw [h3]; simp; omega
 ·show 0 ≤ (s.drop x).ticks + 1 ∧ (s.drop x).ticks + 1 ≤ ((k + 1 : Nat) : Int)
  omega
end
section
variable {h : AHeap} {a q E : Nat} {s : AgS} {k : Nat}
theorem AgAt.qu (ha : AgAt h a q E s) (hk : AgOk s k) (hn : s.arr ≠ []) : QuAt h a q E s.last s.arr := by
 obtain ⟨h1, v, h2, h3⟩ := ha
 rcases h2 with ⟨rfl, h4⟩ | ⟨rfl, h4⟩
 ·exact absurd h4 hn
 ·refine ⟨⟨s.ticks, h1⟩, h3, h4, hk.l, hk.t, fun e => ?_, fun e => ?_⟩
  ·have q1 := h1.g
   rw [e, h4.g] at q1
   simp at q1
  ·have q1 := h3.g
   rw [e, h4.g] at q1
   simp at q1
theorem zqp {s : AgS} (hl : s.last.length = 16) : (s.row q)[0 + 16]? = some (.int .i64 s.ticks) := by
 rw [AgS.row, List.getElem?_append_right (by simp; omega)]; simp [hl]
theorem zm3 {s : AgS} (hl : s.last.length = 16) : (s.row q)[0 + 17]? = some (.ptr q 0 0) := by
 rw [AgS.row, List.getElem?_append_right (by simp; omega)]; simp [hl]
set_option maxHeartbeats 1000000 in
theorem zdh (ha : AgAt h a q E s) (hk : AgOk s k) (hk2 : k ≤ 1000000) (haq : a ≠ q) (x : Nat) : AC Tryz.prog 126 [.ptr a 0 0, .int .i64 x] h (fun r h' => r = .bool (s.has x) ∧ ∃ E', (E' = E ∨ (h.next ≤ E' ∧ E' < h'.next)) ∧ AgAt h' a q E' (s.drop x) ∧ Kp (fun id => id = q ∨ id = E) h h') := by
 have h17 := zm3 (q := q) hk.l
 have hn := hk.n
 obtain ⟨h1, v, h2, h3⟩ := id ha
 have hag := h1.g
 have hal := h1.u.1
 have hqg := h3.g
 have hql := h3.u.1
 simp only [agF] at hqg
 refine AC.introW zft (by simp) ?_
 unfold z8g; dsimp only [qQ, qR, qM, qG]
 (repeat first | refine WW.seq ?_ | refine WW.reg ?_ | refine WL.nil ?_ | refine WW.skip ?_ | refine WW.block ?_ | refine thenN ?_ | refine blkN ?_)
 (repeat first | refine WW.seq ?_ | refine WW.reg ?_ | refine WL.nil ?_ | refine WW.skip ?_ | refine WW.block ?_ | refine thenN ?_ | refine blkN ?_); iterate 1 (refine WL.go ?_)
 (repeat first | refine WW.seq ?_ | refine WW.reg ?_ | refine WL.nil ?_ | refine WW.skip ?_ | refine WW.block ?_ | refine thenN ?_ | refine blkN ?_); iterate 2 (refine WL.go ?_)
 (repeat first | refine WW.seq ?_ | refine WW.reg ?_ | refine WL.nil ?_ | refine WW.skip ?_ | refine WW.block ?_ | refine thenN ?_ | refine blkN ?_)
 refine WW.condF rfl ?_
 (repeat first | refine WW.seq ?_ | refine WW.reg ?_ | refine WL.nil ?_ | refine WW.skip ?_ | refine WW.block ?_ | refine thenN ?_ | refine blkN ?_); iterate 3 (refine WL.go ?_)
 refine WL.go (hs := Stp.load1 rfl hag (zk h17 rfl) gM) ?_
 (refine go ?_)
 refine WL.call rfl gM gSL (zef h2 (by omega) x) ?_
 (refine go ?_)
 cases hx : s.has x with
 | false =>
  have hd : s.drop x = s := by rw [AgS.drop, hx, if_neg (by simp)]
  have hix : ixN s.arr x = -1 := by rw [ixN, if_neg (of_decide_eq_false hx)]
  rw [hix, hd]
  (refine go ?_)
  exact WW.ret ⟨.inl rfl, _, gRES, rfl, E, .inl rfl, ha, Kp.refl⟩
 | true =>
  have hlt := of_decide_eq_true hx
  have hix : ixN s.arr x = (s.arr.findIdx (· == x) : Int) := by rw [ixN, if_pos hlt]
  have hd : s.drop x = { s with arr := remA s.last s.arr (s.arr.findIdx (· == x)) } := by rw [AgS.drop, hx, if_pos rfl]
  have hrl := (zbv (last := s.last) hlt).1
  rw [hix, hd]
  have qu := ha.qu hk (by intro e; rw [e] at hlt; simp at hlt)
  (refine WW.ifB rfl (fun hz1 => ?_) (fun hz1 => ?_))
  ·omega
  (repeat first | refine WW.seq ?_ | refine WW.reg ?_ | refine WL.nil ?_ | refine WW.skip ?_ | refine WW.block ?_ | refine thenN ?_ | refine blkN ?_); iterate 3 (refine WL.go ?_)
  refine WL.go (hs := Stp.load1 rfl hag (zk h17 rfl) gM) ?_
  refine WL.fx1 (FX.rawN (XOK.mkif rfl) gM) ?_
  (refine go ?_)
  refine WL.callA rfl gM gSL (zhd qu hlt (by omega)) ?_
  rintro _ h4 ⟨⟨y, rfl⟩, E', hE', hx', b4, q4, k4⟩
  have hlen : (remA s.last s.arr (s.arr.findIdx (· == x))).length = s.arr.length - 1 := by rw [remA, List.length_take]; omega
  have a4 := h1.kp k4 (fun e => e.elim haq qu.dj.1)
  (refine go ?_)
  refine WW.ret ⟨.inl rfl, _, gRES, rfl, E', .inr ⟨hE', hx'⟩, ⟨a4, _, .inr ⟨rfl, b4⟩, ?_⟩, k4⟩
  rw [hlen]; exact q4
end
end Go.Proofs.YthblcmnhiccnhaaGreat


namespace Go.Proofs.YthblcmnhiccnhaaGreat
open Go Go.Abs

section
variable {h : AHeap} {a q E : Nat} {s : AgS} {k : Nat}
theorem SlV.dj {v : AV} {arr : List Nat} (hv : SlV h v arr E) {a n : Nat} {c : List (List AV)} (hn : n ≠ 1) (ha : BoxAt h a (.mem n c)) : v = .nils ∧ arr = [] ∨ a ≠ E := by
 rcases hv with ⟨rfl, rfl⟩ | ⟨rfl, h4⟩
 ·exact .inl ⟨rfl, rfl⟩
 ·refine .inr fun e => ?_
  have q1 := ha.g
  rw [e, h4.g] at q1
  simp at q1
  exact hn q1.1.symm
set_option maxHeartbeats 1000000 in
theorem zm4 (ha : AgAt h a q E s) (hk : AgOk s k) (hk2 : k ≤ 900000) (haq : a ≠ q) {x : Nat} (hx : x < 16) : AC Tryz.prog 127 [.iface 215 (.ptr q 0 0), .iface 3 (.int .i64 x)] h (fun r h' => r = .tup [] ∧ ∃ E', h.next ≤ E' ∧ E' < h'.next ∧ AgAt h' a q E' { s with arr := pushA s.last s.arr x } ∧ Kp (fun id => id = q ∨ id = E) h h') := by
 obtain ⟨h1, v, h2, h3⟩ := ha
 have hn := hk.n
 have hlen := (zcc (last := s.last) s.arr.length (s.arr ++ [x]) s.arr.length (by simp)).1
 have hal := h1.u.1
 -- where there is a row, it is none of the two
 obtain ⟨E0, h2', hEE, haE, hqE⟩ : ∃ E0, SlV h v s.arr E0 ∧ (∀ h', Kp (fun id => id = q ∨ id = E0) h h' → Kp (fun id => id = q ∨ id = E) h h') ∧ a ≠ E0 ∧ q ≠ E0 := by
  rcases h2 with ⟨rfl, h4⟩ | ⟨rfl, h4⟩
  ·have hql := h3.u.1
   refine ⟨h.next, .inl ⟨rfl, h4⟩, fun h' hk => ⟨hk.next, hk.us, fun id hu hw => hk.get id hu fun e => ?_⟩, by omega, by omega⟩
   rcases e with e | e
   ·exact hw (.inl e)
   ·have := hu.1; omega
  ·refine ⟨E, .inr ⟨rfl, h4⟩, fun _ h => h, fun e => ?_, fun e => ?_⟩
   ·have q1 := h1.g
    rw [e, h4.g] at q1
    simp at q1
   ·have q1 := h3.g
    rw [e, h4.g] at q1
    simp at q1
 refine AC.introW z7k (by simp) ?_
 unfold z3p; dsimp only [qQ, qR, qM, qG]
 (repeat first | refine WW.seq ?_ | refine WW.reg ?_ | refine WL.nil ?_ | refine WW.skip ?_ | refine WW.block ?_ | refine thenN ?_ | refine blkN ?_); iterate 1 (refine WL.go ?_)
 (repeat first | refine WW.seq ?_ | refine WW.reg ?_ | refine WL.nil ?_ | refine WW.skip ?_ | refine WW.block ?_ | refine thenN ?_ | refine blkN ?_); iterate 1 (refine WL.go ?_)
 refine WL.fxr (FXR.inv rfl rfl gM (f := 331) (by kernel_rfl) (by kernel_rfl) (zjs h2' hqE (by omega) h3 x)) ?_
 rintro _ h4 ⟨_, rfl, rfl, hx4, b4, q4, k4⟩
 have a4 := h1.kp k4 (fun e => e.elim haq haE)
 have hxn := k4.next
 have hqh := h3.u.1
 (repeat first | refine WW.seq ?_ | refine WW.reg ?_ | refine WL.nil ?_ | refine WW.skip ?_ | refine WW.block ?_ | refine thenN ?_ | refine blkN ?_)
 (repeat first | refine WW.seq ?_ | refine WW.reg ?_ | refine WL.nil ?_ | refine WW.skip ?_ | refine WW.block ?_ | refine thenN ?_ | refine blkN ?_); iterate 2 (refine WL.go ?_)
 refine WL.fx1 (FX.inv rfl rfl gM (f := 296) (by kernel_rfl) (by kernel_rfl) (za1 (E := h.next) q4.g (.inr rfl))) ?_
 rw [show ((s.arr.length + 1 : Nat) : Int) = (s.arr.length : Int) + 1 by omega]
 (refine go ?_)
 rw [show ((s.arr.length : Int) + 1 - 1) = ((s.arr.length : Nat) : Int) by omega]
 have qu : QuAt h4 a q h.next s.last (s.arr ++ [x]) := ⟨⟨s.ticks, a4⟩, by rw [List.length_append]; exact q4, b4, hk.l, fun y hy => by
  rcases List.mem_append.1 hy with hy | hy
  ·exact hk.t y hy
  ·rw [List.mem_singleton.1 hy]; exact hx, by omega, by omega⟩
 refine WL.callA rfl gM gSL (zg2 qu (j := s.arr.length) (by simp) (by simp; omega) (f := s.arr.length) (Nat.le_refl _)) ?_
 rintro _ h5 ⟨rfl, q5, k5⟩
 have hx5 := k5.next
 obtain ⟨t5, a5⟩ := q5.ob
 have a5' := a4.kp k5 (by omega)
 (refine go ?_)
 refine ⟨.inr rfl, _, gRES, rfl, h.next, Nat.le_refl _, by omega, ⟨a5', _, .inr ⟨rfl, q5.eo⟩, q5.qo⟩, hEE _ (k4.trans2 k5 fun id e => .inr (by omega))⟩
theorem zqq {s : AgS} (hl : s.last.length = 16) {t : Int} : putC (s.row q) (0 + 16) [.int .i64 t] = ({ s with ticks := t } : AgS).row q := by
 simp only [putC, AgS.row, Nat.zero_add, List.length_cons, List.length_nil]
 rw [List.take_left' (by simpa using hl), List.drop_append, List.drop_of_length_le (by simp; omega)]
 simp [hl]
theorem zs5 {s : AgS} (hl : s.last.length = 16) {x : Nat} (hx : x < 16) {t : Int} : putC (s.row q) (0 + x * 1) [.int .i64 t] = ({ s with last := s.last.set x t } : AgS).row q := by
 simp only [putC, AgS.row, Nat.zero_add, Nat.mul_one, List.length_cons, List.length_nil]
 rw [List.take_append_of_le_length (by simp; omega), List.drop_append_of_le_length (by simp; omega), ← List.append_assoc, List.map_set]
 congr 1
 rw [List.set_eq_take_append_cons_drop, if_pos (by simp; omega)]
 simp
set_option maxHeartbeats 2000000 in
theorem z6q (ha : AgAt h a q E s) (hk : AgOk s k) (hk2 : k ≤ 800000) (haq : a ≠ q) {x : Nat} (hx : x < 16) : AC Tryz.prog 78 [.ptr a 0 0, .int .i64 x] h (fun r h' => r = .bool true ∧ ∃ E', h.next ≤ E' ∧ E' < h'.next ∧ AgAt h' a q E' (s.touch x) ∧ Kp (fun id => id = a ∨ id = q ∨ id = E) h h') := by
 have hal := ha.ob.u.1
 have hdk := hk.drop x
 refine AC.introW zeb (by simp) ?_
 unfold z77; dsimp only [qQ, qR, qM, qG]
 (refine go ?_)
 (refine WW.ifB rfl (fun hz3 => ?_) (fun hz3 => ?_))
 ·exfalso; first | omega | (simp at hz3; omega)
 (refine go ?_)
 refine WL.callA rfl gM gSL (zdh ha hk (by omega) haq x) ?_
 rintro _ h2 ⟨rfl, E2, hE2, a2, k2⟩
 have ht := hdk.tk
 have ag2 := a2.ob.g
 have hx2 := k2.next
 have h16 := zqp (q := q) hdk.l
 have h17 := zm3 (q := q) hdk.l
 have hrl : (AgS.row (s.drop x) q).length = 18 := by simp [AgS.row, hdk.l]
 (repeat first | refine WW.seq ?_ | refine WW.reg ?_ | refine WL.nil ?_ | refine WW.skip ?_ | refine WW.block ?_ | refine thenN ?_ | refine blkN ?_); iterate 3 (refine WL.go ?_)
 refine WL.go (hs := Stp.load1 rfl ag2 (zk h16 rfl) gM) ?_
 (repeat first | refine WW.seq ?_ | refine WW.reg ?_ | refine WL.nil ?_ | refine WW.skip ?_ | refine WW.block ?_ | refine thenN ?_ | refine blkN ?_); iterate 3 (refine WL.go ?_)
 refine WL.go (hs := Stp.store1N rfl rfl ag2 rfl (by rw [hrl]; decide) rfl (zqq hdk.l) gM) ?_
 have g3 : (h2.set a (some (.mem 18 [({ s.drop x with ticks := (s.drop x).ticks + 1 } : AgS).row q]))).get a = some (.mem 18 [({ s.drop x with ticks := (s.drop x).ticks + 1 } : AgS).row q]) := gH
 have h16' := zqp (q := q) (s := { s.drop x with ticks := (s.drop x).ticks + 1 }) hdk.l
 have hrl' : (AgS.row { s.drop x with ticks := (s.drop x).ticks + 1 } q).length = 18 := by simp [AgS.row, hdk.l]
 (repeat first | refine WL.go ?_ | refine WW.seq ?_ | refine WW.reg ?_ | refine WL.nil ?_ | refine WW.skip ?_ | refine WW.block ?_ | refine WW.exit ?_ | refine WW.condT rfl ?_ | refine WW.condF rfl ?_ | refine WL.gox ?_ | refine thenN ?_ | refine blkN ?_)
 refine WW.dregX [9] [] [a] gN (by decide +kernel) ?_
 (refine go ?_)
 refine DW.go ?_ (hs := Stp.load1 rfl g3 (zk h16' rfl) gM)
 (refine go ?_)
 refine DW.goWP ?_ (hs := Stp.store1N rfl rfl g3 rfl (by rw [hrl']; first | omega | (simp; omega)) rfl (zs5 (s := { s.drop x with ticks := (s.drop x).ticks + 1 }) hdk.l hx) gM)
 (repeat first | refine DW.go ?_ | refine DW.goWP ?_ | refine DW.goF ?_ | refine DW.endL ?_ | refine thenN ?_ | refine blkN ?_)
 refine WW.named (fun h4 => h4.get a = some (.mem 18 [(⟨(s.drop x).last.set x ((s.drop x).ticks + 1), (s.drop x).ticks + 1, (s.drop x).arr⟩ : AgS).row q]) ∧ Kp (fun id => id = a) h2 h4 ∧ h4.next = h2.next) ⟨gH, Kp.setW (W := fun id => id = a) (Kp.setW (W := fun id => id = a) Kp.refl rfl _) rfl _, rfl⟩ ?_
 rintro h4 ⟨a4, k4, hx4⟩
 have K4 : AgOk (⟨(s.drop x).last.set x ((s.drop x).ticks + 1), (s.drop x).ticks + 1, (s.drop x).arr⟩ : AgS) (k + 1) := ⟨by rw [List.length_set]; exact hdk.l, hdk.t, by have := hdk.n; first | omega | (dsimp only; omega), by first | omega | (dsimp only; omega)⟩
 have A4 : AgAt h4 a q E2 ⟨(s.drop x).last.set x ((s.drop x).ticks + 1), (s.drop x).ticks + 1, (s.drop x).arr⟩ := by
  obtain ⟨b1, v, b2, b3⟩ := a2
  refine ⟨⟨k4.us _ b1.u, a4⟩, v, ?_, b3.kp k4 (fun e => haq e.symm)⟩
  rcases b2 with b2 | ⟨rfl, b2⟩
  ·exact .inl b2
  ·exact .inr ⟨rfl, b2.kp k4 fun e => by
    have q1 := b1.g
    rw [← e, b2.g] at q1
    simp at q1⟩
 have h17' := zm3 (q := q) (s := ⟨(s.drop x).last.set x ((s.drop x).ticks + 1), (s.drop x).ticks + 1, (s.drop x).arr⟩) K4.l
 (repeat first | refine WW.seq ?_ | refine WW.reg ?_ | refine WL.nil ?_ | refine WW.skip ?_ | refine WW.block ?_ | refine thenN ?_ | refine blkN ?_); iterate 3 (refine WL.go ?_)
 refine WL.go (hs := Stp.load1 rfl a4 (zk h17' rfl) gM) ?_
 refine WL.fx1 (FX.rawN (XOK.mkif rfl) gM) ?_
 (repeat first | refine WW.seq ?_ | refine WW.reg ?_ | refine WL.nil ?_ | refine WW.skip ?_ | refine WW.block ?_ | refine thenN ?_ | refine blkN ?_); iterate 1 (refine WL.go ?_)
 refine WL.fx1 (FX.rawN (XOK.mkif rfl) gM) ?_
 refine WL.callA rfl gM gSL (zm4 A4 K4 (by omega) haq hx) ?_
 rintro _ h5 ⟨rfl, E5, hE5, hx5, a5, k5⟩
 (refine go ?_)
 refine WW.ret ⟨.inl rfl, _, gRES, rfl, E5, by omega, hx5, a5, ?_⟩
 refine ((k2.mono fun _ _ e => .inr e).trans (k4.mono fun _ _ e => .inl e)).trans2 k5 fun id e => ?_
 rcases e with e | e
 ·exact .inl (.inr (.inl e))
 ·rcases hE2 with hh | hh
  ·exact .inl (.inr (.inr (e.trans hh)))
  ·exact .inr (by rw [e]; exact hh.1)
end
end Go.Proofs.YthblcmnhiccnhaaGreat


namespace Go.Proofs.YthblcmnhiccnhaaGreat
open Go Go.Abs

def agUp (lv : List Lf) : Nat → AgS
 | 0 => ag0
 | i + 1 => if ¬ (lv.getD i lf0).k = 0 then (agUp lv i).touch i else agUp lv i
theorem zcd (lv : List Lf) : ∀ i, i ≤ 16 → AgOk (agUp lv i) i
 | 0, _ => agOk0
 | i + 1, h => by
  rw [agUp]
  split
  ·exact (zcd lv i (by omega)).touch (by omega)
  ·exact (zcd lv i (by omega)).mono (by omega)
theorem CaG.age {md : Bool} {h h' : AHeap} {n : CaN} {x : CaS} (hg : CaG md h n x) (hk : Kp (fun id => id = n.a ∨ id = n.q ∨ id = n.sE) h h') {E : Nat} {s : AgS} (ha : AgAt h' n.a n.q E s) (hE : h.next ≤ E ∧ E < h'.next) : CaG md h' { n with sE := E } { x with ag := s } := by
 obtain ⟨g1, g2, ⟨v, g3, g4⟩, g5, g6, g8, g7⟩ := hg
 obtain ⟨d1, d2, d3, d4, d5, d6, d7, d8, d9⟩ := g7
 have hown : ∀ id, ({ n with sE := E } : CaN).own id → n.own id ∨ id = E := fun id hi => by
  rcases hi with hi | hi | hi | hi | hi | hi
  ·exact .inl (.inl hi)
  ·exact .inl (.inr (.inl hi))
  ·exact .inl (.inr (.inr (.inl hi)))
  ·exact .inl (.inr (.inr (.inr (.inl hi))))
  ·exact .inl (.inr (.inr (.inr (.inr (.inl hi)))))
  ·exact .inr hi
 have l1 := g8 n.c (.inl rfl)
 have l2 := g8 n.k (.inr (.inl rfl))
 have l3 := g8 n.a (.inr (.inr (.inl rfl)))
 have l4 := g8 n.q (.inr (.inr (.inr (.inl rfl))))
 have l5 := g8 n.nE (.inr (.inr (.inr (.inr (.inl rfl)))))
 have hEa : n.nE ≠ n.a ∧ n.nE ≠ n.q := by rcases d7 with hh | hh <;> omega
 have hck : n.c ≠ n.sE ∧ n.k ≠ n.sE := by rcases d8 with hh | hh <;> omega
 have hw : ∀ id, n.w.nm md id → ¬ (id = n.a ∨ id = n.q ∨ id = n.sE) := fun id hi e => by
  rcases e with rfl | rfl | rfl
  ·exact g6 _ (.inr (.inr (.inl rfl))) hi
  ·exact g6 _ (.inr (.inr (.inr (.inl rfl)))) hi
  ·exact g6 _ (.inr (.inr (.inr (.inr (.inr rfl))))) hi
 refine ⟨g1.kp hk hw, g2.kp hk (by omega), ⟨v, g3.kp hk (by omega), g4.kp hk (by omega)⟩, ha, fun id hi hn => ?_, fun id hi => ?_, d1, d2, d3, d4, d5, d6, d7, .inr (by dsimp only; omega), by dsimp only; omega⟩
 ·rcases hown id hi with hi | rfl
  ·exact g6 id hi hn
  ·have := (g1.us _ hn).1; omega
 ·rcases hown id hi with hi | rfl
  ·exact Nat.lt_of_lt_of_le (g8 id hi) hk.next
  ·exact hE.2
def z8l (md : Bool) (s : WS) : CaS := { zg0 md s with ag := agUp (s.bootS.loadL md) (s.bootS.loadL md).length }
set_option maxHeartbeats 4000000 in
theorem zhe {md : Bool} {h : AHeap} {n : WN} {s : WS} {k : Nat} (hg : WG md h n s) (hs : WSt md s k) (hk : k ≤ 70000) (hf : s.pw.Free) (he : s.bootS.loadE md = 0) (hep : s.ks.epochs.length < 2) (hll : (s.bootS.loadL md).length ≤ 16) :
  AC Tryz.prog 23 [.ptr (n.a + 10) 0 0] h
   (fun r h' => ∃ (N : CaN), r = .tup [.ptr N.c 0 0, .int .i64 0] ∧ N.w = n ∧ CaG md h' N (z8l md s) ∧ (∀ id, N.own id → h.next ≤ id) ∧ Kp (n.own md) h h') := by
 refine AC.introW z9w (by simp) ?_
 unfold z6g; dsimp only [qQ, qR, qM, qG]
 have hob := hg.w.w
 simp only [wRow] at hob
 have hna : n.a + 11 ≤ h.next := hg.w.nx
 have hlt : ∀ id, n.nm md id → id < h.next := fun id hi => (hg.us id hi).1
 obtain ⟨ct1, ct2, ct3⟩ := hs.ct
 (refine go ?_)
 refine WL.call rfl gM gSL (z21 hg.w.sd.pw) ?_
 rw [show s.pw.gone = false from hf.g]
 (refine go ?_)
 refine WL.call rfl gM gSL (znq hg hs (by omega)) ?_
 have hcan := hf.can
 have hbc := zca hf
 refine WL.named (fun h2 => WG md h2 n s.bootS ∧ Kp (n.own md) h h2) ⟨hg.boot, kp_ct n _ _⟩ ?_
 rintro h2 ⟨g2, k2⟩
 have hx2 := k2.next
 have hs2 := hs.boot
 rw [hcan]
 clear hob
 (refine go ?_)
 refine WL.callA rfl gM gSL (zh6 g2 hs2 (by omega)) ?_
 rintro _ h3 ⟨rfl, g3, k3⟩
 obtain ⟨q1, q2, q3, q4, q5, q6⟩ := z98 md s.bootS
 rw [he]
 have hx3 := k3.next
 have hct := g3.w.ct
 rw [q4, hbc] at hct
 have hob := g3.w.w
 simp only [wRow] at hob
 have hks : (zg0 md s).s.ks.epochs.length < 2 := by show (s.bootS.loadS md).ks.epochs.length < 2; rw [q5]; exact hep
 have hO : z8l md s = { zg0 md s with ag := agUp (s.bootS.loadL md) (s.bootS.loadL md).length } := rfl
 generalize z8l md s = XO at *
 generalize hcl : zg0 md s = X at *
 have hX : X = ⟨s.bootS.loadS md, s.ct.boots + 1, 0, s.bootS.loadL md, s.bootS.loadL md, ag0, false⟩ := hcl.symm
 clear hcl g2
 generalize s.bootS.loadL md = lv at *
 generalize s.bootS.loadS md = s3 at *
 (refine go ?_)
 refine WL.call rfl gM gSL (z88 (p := n.p) hct) ?_
 (refine go ?_)
 refine WL.call rfl gM gSL (zbj rfl (s.ct.boots + 1) (by omega)) ?_
 refine WL.named (fun h4 => WG md h4 n s3 ∧ Kp (fun _ => False) h3 h4 ∧ BoxAt h4 h3.next (mkO (s.ct.boots + 1) 0)) ⟨g3.new (by repeat first | exact Kp.refl | assumption | with_reducible refine Kp.put ?_ (by omega) _ | with_reducible refine Kp.setN ?_ (by omega) _ | with_reducible refine Kp.keep ?_ _ | with_reducible refine Kp.setW ?_ (by rfl) _), (by repeat first | exact Kp.refl | assumption | with_reducible refine Kp.put ?_ (by omega) _ | with_reducible refine Kp.setN ?_ (by omega) _ | with_reducible refine Kp.keep ?_ _ | with_reducible refine Kp.setW ?_ (by rfl) _), ⟨z3, gH⟩⟩ ?_
 have hmkN : ∀ id, n.nm md id → id < h3.next := fun id hi => by have := hlt id hi; omega
 rintro h4 ⟨g4, k4, b4⟩
 have hx4 := k4.next
 generalize h3.next = mk at *
 have hmk4 : mk < h4.next := b4.u.1
 clear hob g3 hct
 have hob := g4.w.w
 simp only [wRow] at hob
 (refine go ?_)
 refine WL.call rfl gM gSL (z6o lv (by omega) _) ?_
 (refine go ?_)
 refine WL.callA rfl gM gSL (zfw _) ?_
 rintro _ h5 ⟨a, q, rfl, ag5, haq, ha, hq, k5⟩
 have hx5 := k5.next
 have hap : a < h5.next := ag5.ob.u.1
 have hqp : q < h5.next := by obtain ⟨v, _, h6⟩ := ag5.qo; exact h6.u.1
 have g5 := g4.new k5
 have b5 := b4.kp k5 (fun h => h)
 clear hob
 (repeat first | refine WW.seq ?_ | refine WW.reg ?_ | refine WL.nil ?_ | refine WW.skip ?_ | refine WW.block ?_ | refine thenN ?_ | refine blkN ?_); iterate 3 (refine WL.go ?_)
 refine WL.named (fun h6 => CaG md h6 ⟨n, h5.next, mk, a, q, h5.next, q⟩ X ∧ Kp (fun _ => False) h5 h6) ⟨?_, (by repeat first | exact Kp.refl | assumption | with_reducible refine Kp.put ?_ (by omega) _ | with_reducible refine Kp.setN ?_ (by omega) _ | with_reducible refine Kp.keep ?_ _ | with_reducible refine Kp.setW ?_ (by rfl) _)⟩ ?_
 ·rw [hX]
  refine ⟨g5.new (by repeat first | exact Kp.refl | assumption | with_reducible refine Kp.put ?_ (by omega) _ | with_reducible refine Kp.setN ?_ (by omega) _ | with_reducible refine Kp.keep ?_ _ | with_reducible refine Kp.setW ?_ (by rfl) _), b5.kp (W := fun _ => False) (by repeat first | exact Kp.refl | assumption | with_reducible refine Kp.put ?_ (by omega) _ | with_reducible refine Kp.setN ?_ (by omega) _ | with_reducible refine Kp.keep ?_ _ | with_reducible refine Kp.setW ?_ (by rfl) _) (fun h => h), ⟨_, .inl rfl, ⟨z3, gH⟩⟩, ag5.kp (W := fun _ => False) (by repeat first | exact Kp.refl | assumption | with_reducible refine Kp.put ?_ (by omega) _ | with_reducible refine Kp.setN ?_ (by omega) _ | with_reducible refine Kp.keep ?_ _ | with_reducible refine Kp.setW ?_ (by rfl) _) (fun h => h) (fun h => h) (fun h => h), ?_, ?_, ?_⟩
  ·intro id hid hn
   have := hlt id hn
   rcases hid with rfl | rfl | rfl | rfl | rfl | rfl <;> (dsimp only at *; omega)
  ·intro id hid
   have hL : h5.next < (h5.put h5.next (.mem 6 [[.ptr (n.a + 10) 0 0, .ptr mk 0 0, .imm 8 (lv.map encL), .imm 8 (lv.map encL), .ptr a 0 0, .bool false]])).next := (ltN gN (by omega))
   rcases hid with rfl | rfl | rfl | rfl | rfl | rfl <;> first | omega | (dsimp only; omega)
  ·dsimp only
   refine ⟨by omega, by omega, by omega, by omega, by omega, haq, .inl rfl, .inl rfl, by omega⟩
 have hc5 : h.next ≤ h5.next := by omega
 generalize h5.next = c at *
 clear g5 b5 ag5 g4 b4
 rintro h6 ⟨g6, k6⟩
 have k7 : Kp (n.own md) h h6 := k2.trans (k3.trans ((k4.trans (k5.trans k6)).mono fun _ _ h => h.elim))
 clear k2 k3 k4 k5 k6
 (refine go ?_)
 have g6' : CaG md h6 ⟨n, c, mk, a, q, c, q⟩ { X with ag := agUp lv 0 } := by
  rw [hX] at g6 ⊢; exact g6
 refine WW.loopE (fun (s : Nat × Nat) => [(7, some (.ptr c 0 0)), (57, some (.imm 8 (lv.map encL))), (58, some (.int .i64 lv.length)), (59, some (.int .i64 s.1))])
  (fun s h' => CaG md h' ⟨n, c, mk, a, q, c, s.2⟩ { X with ag := agUp lv s.1 } ∧ (s.2 = q ∨ h6.next ≤ s.2) ∧ Kp (fun id => id = a ∨ id = q ∨ h6.next ≤ id) h6 h' ∧ s.1 ≤ lv.length) (fun s => lv.length - s.1) (0, q) gSUB ⟨g6', .inl rfl, Kp.refl, Nat.zero_le _⟩ ?_
 rintro ⟨i, E⟩ h7 ⟨g7, hEq, k8, hi⟩
 dsimp only at g7 hEq hi ⊢
 have hx6 := k8.next
 have hx7 := k7.next
 have hE0 : h.next ≤ E := by rcases hEq with rfl | hh <;> omega
 obtain ⟨v7, v7r, v7c⟩ := g7.c
 have hcg := v7c.g
 dsimp only at hcg
 (refine go ?_)
 (refine WW.ifB rfl (fun hz1 => ?_) (fun hz1 => ?_))
 ·have hi2 : i < lv.length := by omega
  have hgd : lv.getD i lf0 = lv[i] := by simp [List.getD_eq_getElem?_getD, hi2]
  have hak := zcd lv i (by omega)
  (refine go ?_)
  (refine WW.ifB rfl (fun hz2 => ?_) (fun hz2 => ?_))
  ·have hz2' : ¬ (lv.getD i lf0).k = 0 := by rw [hgd]; simpa using hz2
   have hst : agUp lv (i + 1) = (agUp lv i).touch i := by rw [agUp, if_pos hz2']
   refine WW.named (fun h8 => CaG md h8 ⟨n, c, mk, a, q, c, E⟩ { X with ag := agUp lv i } ∧ Kp (fun _ => False) h7 h8) ⟨g7.new (by repeat first | exact Kp.refl | assumption | with_reducible refine Kp.put ?_ (by omega) _ | with_reducible refine Kp.setN ?_ (by omega) _ | with_reducible refine Kp.keep ?_ _ | with_reducible refine Kp.setW ?_ (by rfl) _), (by repeat first | exact Kp.refl | assumption | with_reducible refine Kp.put ?_ (by omega) _ | with_reducible refine Kp.setN ?_ (by omega) _ | with_reducible refine Kp.keep ?_ _ | with_reducible refine Kp.setW ?_ (by rfl) _)⟩ ?_
   rintro h8 ⟨g8, k9⟩
   obtain ⟨v8, v8r, v8c⟩ := g8.c
   have hcg8 := v8c.g
   dsimp only at hcg8
   have hx8 := k9.next
   (refine go ?_)
   refine WL.callA rfl gM gSL (z6q g8.ag hak (by omega) haq (x := i) (by omega)) ?_
   rintro _ h9 ⟨rfl, E9, hE9, hE9', a9, k10⟩
   (refine go ?_)
   refine ⟨(i + 1, E9), gSUB, ⟨?_, .inr (by dsimp only; omega), ?_, by dsimp only; omega⟩, by dsimp only; omega⟩
   ·rw [hst]; exact g8.age k10 a9 ⟨hE9, hE9'⟩
   ·refine (k8.trans (k9.mono fun _ _ h => h.elim)).trans (k10.mono fun id _ e => ?_)
    rcases e with e | e | e
    ·exact .inl e
    ·exact .inr (.inl e)
    ·rcases hEq with hh | hh
     ·exact .inr (.inl (e.trans hh))
     ·exact .inr (.inr (e.symm ▸ hh))
  have hz2' : (lv.getD i lf0).k = 0 := by rw [hgd]; simpa using hz2
  have hst : agUp lv (i + 1) = agUp lv i := by rw [agUp, if_neg (by simpa using hz2')]
  (refine go ?_)
  refine ⟨(i + 1, E), gSUB, ⟨?_, hEq, k8.trans (Kp.mono (W := fun _ => False) (by repeat first | exact Kp.refl | assumption | with_reducible refine Kp.put ?_ (by omega) _ | with_reducible refine Kp.setN ?_ (by omega) _ | with_reducible refine Kp.keep ?_ _ | with_reducible refine Kp.setW ?_ (by rfl) _) fun _ _ h => h.elim), by dsimp only; omega⟩, by dsimp only; omega⟩
  rw [hst]; exact g7.new (by repeat first | exact Kp.refl | assumption | with_reducible refine Kp.put ?_ (by omega) _ | with_reducible refine Kp.setN ?_ (by omega) _ | with_reducible refine Kp.keep ?_ _ | with_reducible refine Kp.setW ?_ (by rfl) _)
 ·have hie : i = lv.length := by omega
  subst hie
  (refine go ?_)
  refine WL.call rfl gM gSL (z7b g7 hks) ?_
  (refine go ?_)
  refine WW.ret ⟨.inl rfl, _, gRES, ⟨n, c, mk, a, q, c, E⟩, rfl, rfl, hO ▸ g7, fun id hid => by rcases hid with rfl | rfl | rfl | rfl | rfl | rfl <;> first | omega | (dsimp only; omega), k7.trans2 k8 fun id e => .inr (by rcases e with e | e | e <;> omega)⟩
end Go.Proofs.YthblcmnhiccnhaaGreat



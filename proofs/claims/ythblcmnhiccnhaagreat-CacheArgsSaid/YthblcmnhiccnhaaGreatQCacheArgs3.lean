/- What the statement's proof needs, part 3. -/
import Derived.Test.YthblcmnhiccnhaaGreatQCacheArgs2
set_option linter.all false
set_option maxRecDepth 100000
namespace Go.Proofs.YthblcmnhiccnhaaGreat
open Go Go.Abs

def zbd:CC := .seq (.reg [qM 0 (.c .nilp)]) (.seq (.reg [qQ 1 (.raw Ex.mkmap),qQ 2 (.build [.nils,.nilm] [(1,1,.t 1)]),qQ 3 (.box 2 (.t 2)),qM 0 (.t 3)]) .ret)
theorem zjc:FnIs Tryz.prog 118 4 zbd [.t 0]:=⟨Tryz.f118,_,Tryz.func118,rfl,rfl,by kernel_rfl,by kernel_rfl⟩

def z3y:CC := .seq (.reg [qQ 6 (.box 2 (.t 1)),qQ 7 (.box 3 (.t 2)),qQ 10 (.alloc [.nils,.int .u64 0,.int .u64 0]),qM 11 (.c (.bool false))]) (.seq (.seq (.reg [qM 15 (.t 0),qQ 16 (.eqv .p false (.t 15) (.c .nilp)),qM 17 (.t 16),qG 18 (.mov (.t 3)) 17 false,qG 19 (.len (.t 18)) 17 false,qG 20 (.bin .gtr (.t 19) (.c (.int .i64 4000))) 17 false,qQ 21 (.pick (.t 17) (.c (.bool true)) (.t 20)),qM 22 (.t 21),qG 23 (.mov (.t 4)) 22 false,qG 24 (.len (.t 23)) 22 false,qG 25 (.bin .gtr (.t 24) (.c (.int .i64 4000))) 22 false,qQ 26 (.pick (.t 22) (.c (.bool true)) (.t 25))]) (.cond (.t 26) (.seq (.reg [qQ 27 (.build [.nils,.int .u64 0,.int .u64 0] []),qR (.store 3 (.t 10) (.t 27)),qM 11 (.c (.bool false))]) .ret) .skip)) (.seq (.reg [qM 28 (.t 0),qQ 29 (.nilck (.t 28)),qQ 30 (.faddr 0 (.t 29)),qQ 31 (.load 1 false (.t 30)),qQ 32 (.len (.t 31)),qQ 33 (.bin .add (.t 32) (.c (.int .i64 1))),qQ 34 (.conv .u64 (.t 33)),qM 12 (.t 34)]) (.seq (.reg [qM 35 (.t 12),qQ 36 (.call 173 [.t 35,.c (.int .i64 8)]),qM 37 (.t 4),qQ 38 (.len (.t 37)),qQ 39 (.bin .quo (.t 38) (.c (.int .i64 8))),qQ 40 (.bin .add (.t 39) (.c (.int .i64 1))),qQ 41 (.call 178 [.t 36,.t 40]),qM 42 (.t 4),qQ 43 (.len (.t 42)),qQ 44 (.slc 1 (.t 41) none (some (.t 43))),qM 13 (.t 44)]) (.seq (.dreg [qQ 45 (.load 2 true (.t 6)),qQ 46 (.load 3 true (.t 7)),qM 47 (.t 3),qQ 48 (.call 87 [.t 47]),qM 49 (.t 4),qQ 50 (.call 87 [.t 49]),qM 51 (.t 13),qM 52 (.t 12),qQ 53 (.build [.int .u64 0,.int .u64 0] [(0,1,.c (.int .u64 18446744073709551615)),(1,1,.t 52)]),qQ 54 (.build [.nils,.int .u64 0,.int .u64 0] [(0,1,.t 51),(1,2,.t 53)]),qQ 55 (.build [.int .u64 0,.int .u64 0,.int .u32 0,.int .u32 0,.int .u64 0,.nils,.nils,.nils,.int .u64 0,.int .u64 0] [(0,2,.t 45),(2,3,.t 46),(5,1,.t 48),(6,1,.t 50),(7,3,.t 54)]),qQ 14 (.alloc [.int .u64 0,.int .u64 0,.int .u32 0,.int .u32 0,.int .u64 0,.nils,.nils,.nils,.int .u64 0,.int .u64 0]),qR (.store 10 (.t 14) (.t 55))] [[],[],[],[2],[],[4,3],[],[],[7],[6,8],[0,1,3,5,9],[],[11,10,5,0,1,2,3,4,5,6,7,8,9,10,11]]) (.seq (.dreg [qM 56 (.t 0),qM 57 (.t 0),qQ 58 (.nilck (.t 57)),qQ 59 (.faddr 0 (.t 58)),qQ 60 (.load 1 false (.t 59)),qQ 61 (.load 10 true (.t 14)),qQ 62 (.bsl 10 [.t 61]),qQ 63 (.app 10 120 (.t 60) (.t 62)),qQ 64 (.nilck (.t 56)),qQ 65 (.faddr 0 (.t 64)),qR (.store 1 (.t 65) (.t 63))] [[],[],[1],[2],[3],[],[5],[4,6],[0,0,1,2,3,4,5,6,7],[8,0,1,2,3,4,5,6,7],[9,7,7,0,1,2,3,4,5,6,7]]) (.seq (.reg [qQ 66 (.load 10 true (.t 14)),qQ 67 (.call 177 [.t 66]),qQ 68 (.fld 7 3 true (.t 67)),qR (.store 3 (.t 10) (.t 68)),qM 11 (.c (.bool true))]) .ret))))))
theorem z8d:FnIs Tryz.prog 119 69 z3y [.cell 10 3 true,.t 11]:=⟨Tryz.f119,_,Tryz.func119,rfl,rfl,by kernel_rfl,by kernel_rfl⟩

def z3z:CC := .seq (.reg [qQ 6 (.box 2 (.t 1)),qQ 7 (.box 3 (.t 2)),qQ 9 (.box 3 (.t 4)),qM 10 (.c .nils),qM 11 (.c (.bool false))]) (.seq (.seq (.reg [qM 14 (.t 0),qQ 15 (.eqv .p false (.t 14) (.c .nilp))]) (.cond (.t 15) (.seq (.reg [qM 10 (.c .nils),qM 11 (.c (.bool false))]) .ret) .skip)) (.seq (.seq (.reg [qM 16 (.t 0),qQ 17 (.nilck (.t 16)),qQ 18 (.faddr 0 (.t 17)),qQ 19 (.load 1 false (.t 18)),qQ 20 (.len (.t 19)),qM 21 (.c (.int .i64 0))]) (.block 0 (.loop (.seq (.reg [qQ 22 (.bin .lss (.t 21) (.t 20))]) (.seq (.cond (.t 22) .skip (.exit 0)) (.seq (.block 1 (.seq (.reg [qQ 23 (.iaddr 10 (.t 19) (.t 21)),qQ 24 (.load 10 true (.t 23)),qQ 13 (.alloc [.int .u64 0,.int .u64 0,.int .u32 0,.int .u32 0,.int .u64 0,.nils,.nils,.nils,.int .u64 0,.int .u64 0]),qR (.store 10 (.t 13) (.t 24))]) (.seq (.reg [qQ 25 (.faddr 0 (.t 13)),qQ 26 (.load 2 true (.t 25)),qQ 27 (.load 2 true (.t 6)),qQ 28 (.eqv (.a [.i,.i]) false (.t 26) (.t 27)),qM 29 (.t 28),qG 30 (.faddr 2 (.t 13)) 29 true,qG 31 (.load 3 true (.t 30)) 29 true,qG 32 (.load 3 true (.t 7)) 29 true,qG 33 (.eqv (.a [.i,.i,.i]) false (.t 31) (.t 32)) 29 true,qQ 34 (.pick (.t 29) (.t 33) (.c (.bool false))),qM 35 (.t 34),qG 36 (.faddr 7 (.t 13)) 35 true,qG 37 (.faddr 1 (.t 36)) 35 true,qG 38 (.load 2 true (.t 37)) 35 true,qG 39 (.faddr 1 (.t 9)) 35 true,qG 40 (.load 2 true (.t 39)) 35 true,qG 41 (.eqv (.a [.i,.i]) false (.t 38) (.t 40)) 35 true,qQ 42 (.pick (.t 35) (.t 41) (.c (.bool false))),qM 43 (.t 42),qG 44 (.faddr 5 (.t 13)) 43 true,qG 45 (.load 1 false (.t 44)) 43 true,qG 46 (.mov (.t 3)) 43 true,qG 47 (.call 179 [.t 45,.t 46]) 43 true,qQ 48 (.pick (.t 43) (.t 47) (.c (.bool false))),qM 49 (.t 48),qG 50 (.faddr 7 (.t 13)) 49 true,qG 51 (.faddr 0 (.t 50)) 49 true,qG 52 (.load 1 false (.t 51)) 49 true,qG 53 (.faddr 0 (.t 9)) 49 true,qG 54 (.load 1 false (.t 53)) 49 true,qG 55 (.call 179 [.t 52,.t 54]) 49 true,qQ 56 (.pick (.t 49) (.t 55) (.c (.bool false)))]) (.cond (.t 56) (.seq (.reg [qQ 57 (.faddr 6 (.t 13)),qQ 58 (.load 1 false (.t 57)),qQ 59 (.call 87 [.t 58]),qM 10 (.t 59),qM 11 (.c (.bool true))]) .ret) .skip)))) (.reg [qQ 60 (.bin .add (.t 21) (.c (.int .i64 1))),qM 21 (.t 60)]))))))) (.seq (.reg [qM 10 (.c .nils),qM 11 (.c (.bool false))]) .ret)))
theorem z8e:FnIs Tryz.prog 120 61 z3z [.t 10,.t 11]:=⟨Tryz.f120,_,Tryz.func120,rfl,rfl,by kernel_rfl,by kernel_rfl⟩

def z4d:CC := .seq (.reg [qQ 4 (.alloc [.int .u64 0,.int .u64 0])]) (.seq (.seq (.reg [qM 8 (.t 0),qQ 9 (.eqv .p false (.t 8) (.c .nilp))]) (.cond (.t 9) (.seq (.reg [qQ 10 (.build [.int .u64 0,.int .u64 0] []),qR (.store 2 (.t 4) (.t 10))]) .ret) .skip)) (.seq (.reg [qM 11 (.t 1),qQ 12 (.call 172 [.t 11]),qQ 13 (.b2s (.t 12)),qM 5 (.t 13)]) (.seq (.reg [qM 15 (.t 0),qQ 16 (.nilck (.t 15)),qQ 17 (.faddr 1 (.t 16)),qQ 18 (.load 1 false (.t 17)),qM 19 (.t 5),qQ 20 (.raw (Ex.look MK.s (.int .u64 0) true (.t 18) (.t 19))),qM 14 (.t 20),qQ 21 (.ext 0 (.t 14)),qQ 22 (.ext 1 (.t 14)),qM 6 (.t 21),qM 7 (.t 22)]) (.seq (.seq (.reg [qM 23 (.t 7),qQ 24 (.not (.t 23))]) (.cond (.t 24) (.seq (.reg [qM 25 (.t 0),qQ 26 (.nilck (.t 25)),qQ 27 (.faddr 1 (.t 26)),qQ 28 (.load 1 false (.t 27)),qQ 29 (.raw (Ex.mlen (.t 28))),qQ 30 (.bin .add (.t 29) (.c (.int .i64 1))),qQ 31 (.conv .u64 (.t 30)),qM 6 (.t 31)]) (.reg [qM 32 (.t 0),qQ 33 (.nilck (.t 32)),qQ 34 (.faddr 1 (.t 33)),qQ 35 (.load 1 false (.t 34)),qM 36 (.t 5),qM 37 (.t 6),qR (.raw (Ex.mput MK.s (.t 35) (.t 36) (.t 37)))])) .skip)) (.seq (.reg [qM 38 (.t 6),qQ 39 (.build [.int .u64 0,.int .u64 0] [(0,1,.c (.int .u64 17216961135462248174)),(1,1,.t 38)]),qR (.store 2 (.t 4) (.t 39))]) .ret)))))
theorem z9i:FnIs Tryz.prog 121 40 z4d [.cell 4 2 true]:=⟨Tryz.f121,_,Tryz.func121,rfl,rfl,by kernel_rfl,by kernel_rfl⟩

def z8f:CC := .seq (.reg [qM 4 (.c .nils)]) (.seq (.seq (.reg [qM 12 (.t 1),qQ 13 (.bin .eql (.t 12) (.c (.int .i64 0)))]) (.cond (.t 13) (.seq (.reg [qQ 14 (.bsl0),qM 4 (.t 14)]) .ret) .skip)) (.seq (.seq (.reg [qM 15 (.t 1),qQ 16 (.bin .lss (.t 15) (.c (.int .i64 0)))]) (.cond (.t 16) (.reg [qQ 17 (.raw (Ex.mkif 9 (.c (.str [98,121,116,101,115,58,32,110,101,103,97,116,105,118,101,32,82,101,112,101,97,116,32,99,111,117,110,116])))),qR (.bad)]) .skip)) (.seq (.reg [qM 19 (.t 0),qQ 20 (.len (.t 19)),qQ 21 (.conv .u64 (.t 20)),qM 22 (.t 1),qQ 23 (.conv .u64 (.t 22)),qQ 24 (.call 239 [.t 21,.t 23]),qM 18 (.t 24),qQ 25 (.ext 0 (.t 18)),qQ 26 (.ext 1 (.t 18)),qM 5 (.t 25),qM 6 (.t 26)]) (.seq (.seq (.reg [qM 27 (.t 5),qQ 28 (.bin .gtr (.t 27) (.c (.int .u64 0))),qM 29 (.t 28),qG 30 (.mov (.t 6)) 29 false,qG 31 (.bin .gtr (.t 30) (.c (.int .u64 9223372036854775807))) 29 false,qQ 32 (.pick (.t 29) (.c (.bool true)) (.t 31))]) (.cond (.t 32) (.reg [qQ 33 (.raw (Ex.mkif 9 (.c (.str [98,121,116,101,115,58,32,82,101,112,101,97,116,32,111,117,116,112,117,116,32,108,101,110,103,116,104,32,111,118,101,114,102,108,111,119])))),qR (.bad)]) .skip)) (.seq (.reg [qM 34 (.t 6),qQ 35 (.conv .i64 (.t 34)),qM 7 (.t 35)]) (.seq (.seq (.reg [qM 36 (.t 0),qQ 37 (.len (.t 36)),qQ 38 (.bin .eql (.t 37) (.c (.int .i64 0)))]) (.cond (.t 38) (.seq (.reg [qQ 39 (.bsl0),qM 4 (.t 39)]) .ret) .skip)) (.seq (.reg [qM 40 (.t 7),qM 8 (.t 40)]) (.seq (.seq (.reg [qM 41 (.t 8),qQ 42 (.bin .gtr (.t 41) (.c (.int .i64 8192)))]) (.cond (.t 42) (.seq (.reg [qM 43 (.t 0),qQ 44 (.len (.t 43)),qQ 45 (.bin .quo (.c (.int .i64 8192)) (.t 44)),qM 46 (.t 0),qQ 47 (.len (.t 46)),qQ 48 (.bin .mul (.t 45) (.t 47)),qM 8 (.t 48)]) (.seq (.reg [qM 49 (.t 8),qQ 50 (.bin .eql (.t 49) (.c (.int .i64 0)))]) (.cond (.t 50) (.reg [qM 51 (.t 0),qQ 52 (.len (.t 51)),qM 8 (.t 52)]) .skip))) .skip)) (.seq (.reg [qM 53 (.t 7),qQ 54 (.raw (Ex.callx 240 [.t 53])),qM 55 (.t 7),qM 56 (.t 7),qQ 57 (.raw (Ex.slc3 1 (.t 54) none (some (.t 55)) (.t 56))),qM 9 (.t 57)]) (.seq (.reg [qM 58 (.t 9),qM 59 (.t 0),qQ 60 (.cpy 1 (.t 58) (.t 59)),qM 10 (.t 60)]) (.seq (.block 0 (.loop (.seq (.seq (.reg [qM 61 (.t 10),qM 62 (.t 7),qQ 63 (.bin .lss (.t 61) (.t 62))]) (.cond (.t 63) .skip (.exit 0))) (.block 1 (.seq (.reg [qM 64 (.t 10),qM 65 (.t 8),qQ 66 (.mn (.t 64) (.t 65)),qM 11 (.t 66)]) (.dreg [qM 67 (.t 10),qM 68 (.t 9),qM 69 (.t 10),qQ 70 (.slc 1 (.t 68) (some (.t 69)) none),qM 71 (.t 9),qM 72 (.t 11),qQ 73 (.slc 1 (.t 71) none (some (.t 72))),qQ 74 (.cpy 1 (.t 70) (.t 73)),qQ 75 (.bin .add (.t 67) (.t 74)),qM 10 (.t 75)] [[],[],[],[1,2],[],[],[4,5],[3,6],[0,7],[8,7,0,1,2,3,4,5,6,7,8]])))))) (.seq (.reg [qM 76 (.t 9),qM 4 (.t 76)]) .ret))))))))))))
theorem zfh:FnIs Tryz.prog 178 77 z8f [.t 4]:=⟨Tryz.f178,_,Tryz.func178,rfl,rfl,by kernel_rfl,by kernel_rfl⟩

def z9j:CC := .seq (.reg [qM 4 (.c .nils)]) (.seq (.seq (.reg [qM 7 (.t 1),qQ 8 (.bin .lss (.t 7) (.c (.int .i64 1))),qM 9 (.t 8),qG 10 (.mov (.t 1)) 9 false,qG 11 (.bin .gtr (.t 10) (.c (.int .i64 8))) 9 false,qQ 12 (.pick (.t 9) (.c (.bool true)) (.t 11))]) (.cond (.t 12) (.seq (.reg [qM 4 (.c .nils)]) .ret) .skip)) (.seq (.reg [qM 13 (.t 1),qQ 14 (.mksl 1 [.int .u8 0] 1 (.t 13) (.t 13)),qM 5 (.t 14)]) (.seq (.seq (.reg [qM 15 (.t 5),qQ 16 (.len (.t 15)),qM 17 (.c (.int .i64 0))]) (.block 0 (.loop (.seq (.reg [qQ 18 (.bin .lss (.t 17) (.t 16))]) (.seq (.cond (.t 18) .skip (.exit 0)) (.seq (.block 1 (.seq (.reg [qM 19 (.t 17),qM 6 (.t 19)]) (.reg [qM 20 (.t 5),qM 21 (.t 6),qM 22 (.t 0),qM 23 (.t 1),qQ 24 (.bin .sub (.t 23) (.c (.int .i64 1))),qM 25 (.t 6),qQ 26 (.bin .sub (.t 24) (.t 25)),qQ 27 (.bin .mul (.c (.int .i64 8)) (.t 26)),qQ 28 (.sh .shr (.t 22) (.t 27)),qQ 29 (.conv .u8 (.t 28)),qQ 30 (.iaddr 1 (.t 20) (.t 21)),qR (.store 1 (.t 30) (.t 29))]))) (.reg [qQ 31 (.bin .add (.t 17) (.c (.int .i64 1))),qM 17 (.t 31)]))))))) (.seq (.reg [qM 32 (.t 5),qM 4 (.t 32)]) .ret))))
theorem zdj:FnIs Tryz.prog 173 33 z9j [.t 4]:=⟨Tryz.f173,_,Tryz.func173,rfl,rfl,by kernel_rfl,by kernel_rfl⟩

def z5e:CC := .seq (.reg [qM 2 (.c .nils)]) (.seq (.seq (.reg [qM 3 (.t 0),qQ 4 (.isnil false (.t 3))]) (.cond (.t 4) (.seq (.reg [qM 2 (.c .nils)]) .ret) .skip)) (.seq (.reg [qQ 5 (.bsl0),qM 6 (.t 0),qQ 7 (.app 1 1 (.t 5) (.t 6)),qM 2 (.t 7)]) .ret))
theorem z8g:FnIs Tryz.prog 87 8 z5e [.t 2]:=⟨Tryz.f87,_,Tryz.func87,rfl,rfl,by kernel_rfl,by kernel_rfl⟩

def za5:CC := .seq (.reg [qQ 1 (.box 10 (.t 0)),qQ 2 (.alloc [.int .u64 0,.int .u64 0,.int .u32 0,.int .u32 0,.int .u64 0,.nils,.nils,.nils,.int .u64 0,.int .u64 0])]) (.seq (.dreg [qQ 3 (.faddr 5 (.t 1)),qQ 4 (.load 1 false (.t 3)),qQ 5 (.call 87 [.t 4]),qQ 6 (.faddr 6 (.t 1)),qQ 7 (.load 1 false (.t 6)),qQ 8 (.call 87 [.t 7]),qQ 9 (.faddr 7 (.t 1)),qQ 10 (.faddr 0 (.t 9)),qQ 11 (.load 1 false (.t 10)),qQ 12 (.call 87 [.t 11]),qQ 13 (.faddr 5 (.t 1)),qR (.store 1 (.t 13) (.t 5)),qQ 14 (.faddr 6 (.t 1)),qR (.store 1 (.t 14) (.t 8)),qQ 15 (.faddr 7 (.t 1)),qQ 16 (.faddr 0 (.t 15)),qR (.store 1 (.t 16) (.t 12))] [[],[0],[1],[],[3],[4,2],[],[6],[7],[8,5],[0,1,2,3,4,6,7,8],[10,2,9,0,1,2,3,4,6,7,8],[0,1,2,3,4,5,6,7,8,10,11],[12,5,11,0,1,2,3,4,5,6,7,8,10,11],[0,1,2,3,4,5,6,7,8,9,10,11,12,13],[14,0,1,2,3,4,5,6,7,8,9,10,11,12,13],[15,9,13,0,1,2,3,4,5,6,7,8,9,10,11,12,13]]) (.seq (.reg [qQ 17 (.load 10 true (.t 1)),qR (.store 10 (.t 2) (.t 17))]) .ret))
theorem zh7:FnIs Tryz.prog 177 18 za5 [.cell 2 10 true]:=⟨Tryz.f177,_,Tryz.func177,rfl,rfl,by kernel_rfl,by kernel_rfl⟩

def za6:CC := .seq (.reg [qM 4 (.c (.bool false))]) (.seq (.reg [qM 5 (.t 0),qQ 6 (.b2s (.t 5)),qM 7 (.t 1),qQ 8 (.b2s (.t 7)),qQ 9 (.eqv .s false (.t 6) (.t 8)),qM 4 (.t 9)]) .ret)
theorem zh8:FnIs Tryz.prog 179 10 za6 [.t 4]:=⟨Tryz.f179,_,Tryz.func179,rfl,rfl,by kernel_rfl,by kernel_rfl⟩

def z1h:CC := .seq (.reg [qM 2 (.c .nils)]) (.seq (.reg [qM 3 (.c (.int .i64 0))]) (.seq (.seq (.reg [qM 9 (.t 0),qQ 10 (.len (.t 9)),qM 11 (.c (.int .i64 0))]) (.block 0 (.loop (.seq (.reg [qQ 12 (.bin .lss (.t 11) (.t 10))]) (.seq (.cond (.t 12) .skip (.exit 0)) (.seq (.block 1 (.seq (.reg [qQ 13 (.iaddr 1 (.t 9) (.t 11)),qQ 14 (.load 1 false (.t 13)),qM 5 (.t 14)]) (.seq (.reg [qM 15 (.t 3),qM 16 (.t 5),qQ 17 (.len (.t 16)),qQ 18 (.bin .add (.t 15) (.t 17)),qM 3 (.t 18)]) (.seq (.reg [qM 19 (.t 3),qQ 20 (.bin .lss (.t 19) (.c (.int .i64 0)))]) (.cond (.t 20) (.reg [qQ 21 (.raw (Ex.mkif 9 (.c (.str [108,101,110,32,111,117,116,32,111,102,32,114,97,110,103,101])))),qR (.bad)]) .skip))))) (.reg [qQ 22 (.bin .add (.t 11) (.c (.int .i64 1))),qM 11 (.t 22)]))))))) (.seq (.reg [qM 23 (.t 3),qQ 24 (.call 236 [.c .nils,.t 23]),qM 6 (.t 24)]) (.seq (.seq (.reg [qM 25 (.t 0),qQ 26 (.len (.t 25)),qM 27 (.c (.int .i64 0))]) (.block 2 (.loop (.seq (.reg [qQ 28 (.bin .lss (.t 27) (.t 26))]) (.seq (.cond (.t 28) .skip (.exit 2)) (.seq (.block 3 (.seq (.reg [qQ 29 (.iaddr 1 (.t 25) (.t 27)),qQ 30 (.load 1 false (.t 29)),qM 8 (.t 30)]) (.reg [qM 31 (.t 6),qM 32 (.t 8),qQ 33 (.app 1 1 (.t 31) (.t 32)),qM 6 (.t 33)]))) (.reg [qQ 34 (.bin .add (.t 27) (.c (.int .i64 1))),qM 27 (.t 34)]))))))) (.seq (.reg [qM 35 (.t 6),qM 2 (.t 35)]) .ret)))))
theorem z2i:FnIs Tryz.prog 172 36 z1h [.t 2]:=⟨Tryz.f172,_,Tryz.func172,rfl,rfl,by kernel_rfl,by kernel_rfl⟩

def z77:CC := .seq (.reg [qM 4 (.c (.int .u64 0)),qM 5 (.c (.int .u64 0))]) (.seq (.cond (.c (.bool false)) (.seq (.reg [qM 11 (.t 0),qQ 12 (.conv .u32 (.t 11)),qM 13 (.t 1),qQ 14 (.conv .u32 (.t 13)),qQ 15 (.call 278 [.t 12,.t 14]),qM 10 (.t 15),qQ 16 (.ext 0 (.t 10)),qQ 17 (.ext 1 (.t 10)),qM 6 (.t 16),qM 7 (.t 17)]) (.seq (.reg [qM 18 (.t 6),qQ 19 (.conv .u64 (.t 18)),qM 20 (.t 7),qQ 21 (.conv .u64 (.t 20)),qM 4 (.t 19),qM 5 (.t 21)]) .ret)) .skip) (.seq (.reg [qM 23 (.t 0),qM 24 (.t 1),qQ 25 (.call 279 [.t 23,.t 24]),qM 22 (.t 25),qQ 26 (.ext 0 (.t 22)),qQ 27 (.ext 1 (.t 22)),qM 8 (.t 26),qM 9 (.t 27)]) (.seq (.reg [qM 28 (.t 8),qM 29 (.t 9),qM 4 (.t 28),qM 5 (.t 29)]) .ret)))
theorem ze9:FnIs Tryz.prog 239 30 z77 [.t 4,.t 5]:=⟨Tryz.f239,_,Tryz.func239,rfl,rfl,by kernel_rfl,by kernel_rfl⟩

def z1w:CC := .seq (.reg [qM 4 (.c .nils)]) (.seq (.seq (.reg [qM 5 (.t 1),qQ 6 (.bin .lss (.t 5) (.c (.int .i64 0)))]) (.cond (.t 6) (.reg [qQ 7 (.raw (Ex.mkif 9 (.c (.str [99,97,110,110,111,116,32,98,101,32,110,101,103,97,116,105,118,101])))),qR (.bad)]) .skip)) (.seq (.seq (.reg [qM 8 (.t 1),qM 9 (.t 0),qQ 10 (.raw (Ex.caps (.t 9))),qM 11 (.t 0),qQ 12 (.len (.t 11)),qQ 13 (.bin .sub (.t 10) (.t 12)),qQ 14 (.bin .sub (.t 8) (.t 13)),qM 1 (.t 14)]) (.seq (.reg [qM 15 (.t 1),qQ 16 (.bin .gtr (.t 15) (.c (.int .i64 0)))]) (.cond (.t 16) (.reg [qM 17 (.t 0),qM 18 (.t 0),qQ 19 (.raw (Ex.caps (.t 18))),qQ 20 (.slc 1 (.t 17) none (some (.t 19))),qM 21 (.t 1),qQ 22 (.raw (Ex.appz 1 1 [.int .u8 0] (.t 20) (.t 21))),qM 23 (.t 0),qQ 24 (.len (.t 23)),qQ 25 (.slc 1 (.t 22) none (some (.t 24))),qM 0 (.t 25)]) .skip))) (.seq (.reg [qM 26 (.t 0),qM 4 (.t 26)]) .ret)))
theorem z2w:FnIs Tryz.prog 236 27 z1w [.t 4]:=⟨Tryz.f236,_,Tryz.func236,rfl,rfl,by kernel_rfl,by kernel_rfl⟩

def z5l:CC := .seq (.reg [qM 4 (.c (.int .u64 0)),qM 5 (.c (.int .u64 0))]) (.seq (.reg [qM 14 (.t 0),qQ 15 (.bin .and (.t 14) (.c (.int .u64 4294967295))),qM 6 (.t 15)]) (.seq (.reg [qM 16 (.t 0),qQ 17 (.sh .shr (.t 16) (.c (.int .u64 32))),qM 7 (.t 17)]) (.seq (.reg [qM 18 (.t 1),qQ 19 (.bin .and (.t 18) (.c (.int .u64 4294967295))),qM 8 (.t 19)]) (.seq (.reg [qM 20 (.t 1),qQ 21 (.sh .shr (.t 20) (.c (.int .u64 32))),qM 9 (.t 21)]) (.seq (.reg [qM 22 (.t 6),qM 23 (.t 8),qQ 24 (.bin .mul (.t 22) (.t 23)),qM 10 (.t 24)]) (.seq (.reg [qM 25 (.t 7),qM 26 (.t 8),qQ 27 (.bin .mul (.t 25) (.t 26)),qM 28 (.t 10),qQ 29 (.sh .shr (.t 28) (.c (.int .u64 32))),qQ 30 (.bin .add (.t 27) (.t 29)),qM 11 (.t 30)]) (.seq (.reg [qM 31 (.t 11),qQ 32 (.bin .and (.t 31) (.c (.int .u64 4294967295))),qM 12 (.t 32)]) (.seq (.reg [qM 33 (.t 11),qQ 34 (.sh .shr (.t 33) (.c (.int .u64 32))),qM 13 (.t 34)]) (.seq (.reg [qM 35 (.t 12),qM 36 (.t 6),qM 37 (.t 9),qQ 38 (.bin .mul (.t 36) (.t 37)),qQ 39 (.bin .add (.t 35) (.t 38)),qM 12 (.t 39)]) (.seq (.reg [qM 40 (.t 7),qM 41 (.t 9),qQ 42 (.bin .mul (.t 40) (.t 41)),qM 43 (.t 13),qQ 44 (.bin .add (.t 42) (.t 43)),qM 45 (.t 12),qQ 46 (.sh .shr (.t 45) (.c (.int .u64 32))),qQ 47 (.bin .add (.t 44) (.t 46)),qM 4 (.t 47)]) (.seq (.reg [qM 48 (.t 0),qM 49 (.t 1),qQ 50 (.bin .mul (.t 48) (.t 49)),qM 5 (.t 50)]) .ret)))))))))))
theorem zbe:FnIs Tryz.prog 279 51 z5l [.t 4,.t 5]:=⟨Tryz.f279,_,Tryz.func279,rfl,rfl,by kernel_rfl,by kernel_rfl⟩

end Go.Proofs.YthblcmnhiccnhaaGreat


namespace Go.Abs
open Go

section
variable {P:Program}{N:Nat}{e e':Env}{h h':AHeap}{l:List CI}{Q:Exit→Env→AHeap→Prop}

def XOK (P:Program)(N:Nat)(x:Ex)(e:Env)(h:AHeap)(r:Option AV)(f:Eff):Prop :=
 ∀ (o:Oper),z7 P N o=some x→∀ e2,(∀ s∈z10 x,lk s e2=lk s e)→∀ (m:Inj) (w:World) (a:Act),HR m h w→ER N m h w e2 a→OpOK P o a m h w h.next r f

theorem FX.raw {d:Option Nat}{x:Ex}{g:Option (Nat×Bool)}{r:Option AV}{f:Eff}(hx:XOK P N x e h r f)(hg:met e g):FX P N ⟨d,.raw x,g⟩ e h r (f.on h.next h):=by
 intro ops i o ho hc e2 hs m w a K Q hr he hk
 have hraw:=z71 hc rfl
 rcases zx hc with ⟨hb1,hb2⟩ | ⟨hd,hdst,_,hgd⟩
 ·cases hb1
 ·obtain ⟨w1,w2⟩:=zl he hgd
  have hi:∀ s∈z10 x,lk s e2=lk s e:=fun s h=>hs s (by unfold zk;split <;> simp [z16,h])
  have hw:Region.wanted o (yielded ops a.tmps)=true:=by
   cases g with
   | none => exact w1 rfl
   | some sb =>
    obtain ⟨s,b⟩:=sb
    have hl:lk s e2=some (.bool b):=(hs s (by simp [zk])).trans hg
    rw [w2 s b b rfl hl];simp
  simp only [wpOp,ho]
  rw [if_pos hw]
  left
  obtain ⟨m',w',hr',st,hres⟩:=hx o hraw e2 hi m w a hr he
  have hd':d=o.dst:=hd
  unfold Oper.wp
  cases r with
  | some v =>
   obtain ⟨cv,hrun,hv⟩:=hres
   rw [hrun,Oper.upon_value]
   refine hk m' w' _ hr' ?_ st
   show ER N m' _ w' (putR d (some v) e2) _
   rw [hd']
   exact (he.step st).putR hdst hv
  | none =>
   rw [hres,Oper.upon_skip]
   refine hk m' w' _ hr' ?_ st
   show ER N m' _ w' (putR d none e2) _
   rw [hd']
   exact (he.step st).skipR _ _
theorem AL.fx {c:CI}{r:Option AV}(hx:FX P N c e h r h')(hrest:AL P N l Q (putR c.d r e) h'):AL P N (c::l) Q e h:=by
 intro ops idx hlt hl m w a hr he
 cases idx with
 | nil => simp at hl
 | cons i idx =>
  simp only [List.map_cons,List.cons.injEq] at hl
  obtain ⟨hc,hl⟩:=hl
  have hilt:=hlt i (by simp)
  have ho:ops[i]? = some ops[i]:=Array.getElem?_eq_getElem hilt
  have hget:ops.getD i default=ops[i]:=by simp [hilt]
  rw [hget] at hc
  rw [wpOps_cons]
  refine hx ops i _ ho hc e (fun _ _=>rfl) m w a _ _ hr he fun m' w' a' h1 h2 h3 => ?_
  exact z15 (fun _ _ _ hp=>PA.from h3 hp) idx _ _ (hrest ops idx (fun j hj=>hlt j (by simp [hj])) hl m' w' a' h1 h2)

theorem zqx {o:Oper}(hc:z7 P N o=some .mkmap):∃ t,o.op = .makeMap t none:=by
  unfold z7 at hc
  split at hc
  all_goals first
    | exact ⟨_, ‹_›⟩
    | (repeat' split at hc
       all_goals first
         | (cases hc; done)
         | (rw [Option.map_eq_some_iff] at hc; obtain ⟨_, _, h⟩ := hc; cases h; done) | contradiction)
theorem XOK.mkmap:XOK P N .mkmap e h (some (.map h.next)) (.new (.map [])):=by
 intro o hc e2 hs m w a hr he
 obtain ⟨t,hop⟩:=zqx hc
 have hf:=z11 hr
 have hOR:OR (upd m h.next (some (w.heap.size,0))) (h.put h.next (.map [])) (w.alloc (.map #[] 0)) h.next (.map []) :=
  ⟨w.heap.size,#[],0,by simp [upd],(MapKept.heap_alloc w _).1,rfl,by simp⟩
 refine ⟨_,_,hr.put hf (o := .map #[] 0) (t:=0) hOR,z4j hr hf _ _ _,.map (some w.heap.size),?_,.map _ _ z2 fun _ _=>by simp [upd]⟩
 simp [execOp,hop,Instr.makeMap]

def sameK:AV→AV→Option Bool
 | .int k a, .int k' b => if k = k' then some (a == b) else none
 | .str a, .str b => some (a == b)
 | _, _ => none
def findA (k:AV):List (AV×AV)→Nat→Option (Option (Nat×AV))
  | [], _ => some none
  | (k', v) :: es, i => match sameK k k' with
    | some true => some (some (i, v))
    | some false => findA k es (i + 1)
    | none => none
def EntR (m:Inj)(h:AHeap)(w:World):List (AV×AV)→List MapEntry→Prop
 | [], [] => True
 | (k, v) :: es, c :: cs => VR m h w k c.key ∧ VR m h w v c.val ∧ EntR m h w es cs
 | _, _ => False
def FindR (m:Inj)(h:AHeap)(w:World):Option (Nat×AV)→Option (Nat×Value)→Prop
 | none, none => True
 | some (i, v), some (j, c) => i = j ∧ VR m h w v c
 | _, _ => False

theorem znd {m:Inj}{w:World}:∀ {es:List (AV×AV)} {cs:List MapEntry},es.length=cs.length→(∀ (i:Nat) (k v:AV),es[i]? = some (k,v)→VR m h w k (cs.getD i default).key∧VR m h w v (cs.getD i default).val)→EntR m h w es cs
 | [], [], _, _ => trivial
 | [], _ :: _, hl, _ => by simp at hl
 | _ :: _, [], hl, _ => by simp at hl
 | (k, v) :: es, c :: cs, hl, hv => ⟨(hv 0 k v rfl).1, (hv 0 k v rfl).2, znd (by simpa using hl) fun i k v hi => by simpa using hv (i + 1) k v (by simpa using hi)⟩

def kOK:TypeDesc→AV→Prop
 | .string, .str _ => True
 | .int _, .int _ _ => True
 | _, _ => False
theorem zfi {m:Inj}{w:World}{d:TypeDesc}(hd:d = .string∨∃ k,d = .int k){a b:AV}{ca cb:Value}(ha:VR m h w a ca)(hb:VR m h w b cb){r:Bool}(hk:kOK d a)(hs:sameK a b=some r):Instr.sameNow d ca cb=some r:=by
 rcases hd with rfl | ⟨k,rfl⟩
 ·cases a <;> simp only [kOK] at hk
  cases b <;> simp only [sameK] at hs <;> try (cases hs;done)
  cases ha;cases hb
  rename_i x y
  simp only [Instr.sameNow]
  injection hs with hs
  rw [← hs]
  congr 1
  by_cases e:x=y
  ·subst e;rw [(MapKept.bytes_beq _ _).2 rfl];simp
  ·have e1:(x==y)=false:=by simp [e]
   rw [e1]
   cases e2:((⟨x.toArray⟩:ByteArray)==⟨y.toArray⟩)
   ·rfl
   ·have:=(MapKept.bytes_beq _ _).1 e2
    injection this with this
    exact absurd (by simpa using congrArg Array.toList this) e
 ·cases a <;> simp only [kOK] at hk
  cases b <;> simp only [sameK] at hs <;> try (cases hs;done)
  cases ha;cases hb
  simp only [Instr.sameNow]
  exact hs
theorem z9k {m:Inj}{w:World}{d:TypeDesc}(hd:d = .string∨∃ k,d = .int k){a:AV}{ca:Value}(ha:VR m h w a ca)(hk:kOK d a) :
    ∀ {es:List (AV×AV)} {cs:List MapEntry} {i:Nat} {r:Option (Nat×AV)},EntR m h w es cs→findA a es i=some r→∃ rr,Instr.findNow d ca cs i=some rr∧FindR m h w r rr
  | [], [], i, r, _, hf => by cases hf; exact ⟨none, rfl, trivial⟩
  | [], _ :: _, _, _, he, _ => he.elim
  | _ :: _, [], _, _, he, _ => he.elim
  | (k, v) :: es, c :: cs, i, r, ⟨h1, h2, h3⟩, hf => by
    simp only [findA] at hf
    split at hf
    · rename_i hs
      cases hf
      exact ⟨some (i,c.val),by simp only [Instr.findNow,zfi hd ha h1 hk hs],rfl,h2⟩
    · rename_i hs
      obtain ⟨rr,q1,q2⟩:=z9k hd ha hk h3 hf
      exact ⟨rr,by simp only [Instr.findNow,zfi hd ha h1 hk hs,q1],q2⟩
    · cases hf

theorem zsl {o:Oper}{mk:MK}{z:AV}{ok:Bool}{x y:Opd}(hc:z7 P N o=some (.look mk z ok x y)) :
    ∃ t kt et mo ko i zv,o.op = .lookup t mo ko ok∧P.underlying t=some (.map kt et)∧ofOpd N mo=some x∧ofOpd N ko=some y∧mkind P kt=some mk∧P.info? et=some i∧i.zero=some zv∧ofV zv=some z:=by
  unfold z7 at hc
  split at hc
  case h_2 t mo ko ok' hop =>
    repeat' split at hc
    all_goals first
      | (cases hc; done)
      | (cases hc; exact ⟨_, _, _, _, _, _, _, hop, ‹_›, ‹_›, ‹_›, ‹_›, ‹_›, ‹_›, ‹_›⟩)
  all_goals
    (repeat' split at hc
     all_goals first
       | (cases hc; done)
       | (rw [Option.map_eq_some_iff] at hc; obtain ⟨_, _, h⟩ := hc; cases h; done) | contradiction)

def lookR (z:AV)(ok:Bool)(r:Option (Nat×AV)):AV :=
 if ok then .tup [(r.map (·.2)).getD z,.bool r.isSome] else (r.map (·.2)).getD z
def keyOK:MK→AV→Prop
 | .i, .int _ _ => True
 | .s, .str _ => True
 | _, _ => False
theorem zsm {t:TypeId}(hk:mkind P t=some .i):∃ k,P.underlying t=some (.int k):=by
 unfold mkind at hk
 repeat' split at hk
 all_goals first
  | exact ⟨_, ‹_›⟩
  | (rw [Option.map_eq_some_iff] at hk; obtain ⟨_, _, h⟩ := hk; cases h; done)
  | (cases hk; done)
theorem zsn {t:TypeId}(hk:mkind P t=some .s):P.underlying t=some .string:=by
 unfold mkind at hk
 repeat' split at hk
 all_goals first
  | assumption
  | (rw [Option.map_eq_some_iff] at hk; obtain ⟨_, _, h⟩ := hk; cases h; done)
  | (cases hk; done)
theorem mkey {m:Inj}{w:World}{mk:MK}{t:TypeId}{a:AV}(hk:mkind P t=some mk)(ha:keyOK mk a):∃ d,P.underlying t=some d∧(d = .string∨∃ k,d = .int k)∧kOK d a:=by
 cases mk with
 | i => obtain ⟨k, hu⟩ := zsm hk; exact ⟨_, hu, .inr ⟨k, rfl⟩, by cases a <;> simp [keyOK, kOK] at ha ⊢⟩
 | s => exact ⟨_, zsn hk, .inl rfl, by cases a <;> simp [keyOK, kOK] at ha ⊢⟩
 | a ks => cases a <;> simp [keyOK] at ha

theorem zh9 {m:Inj}{w:World}(hr:HR m h w){id:Nat}{es:List (AV×AV)}(hg:h.get id=some (.map es)){c:Value}(hv:VR m h w (.map id) c) :
  ∃ (b:Nat) (ens:Array MapEntry) (ck:Nat),c = .map (some b)∧m id=some (b,0)∧w.heap[b]? = some (.map ens ck)∧es.length=ens.size∧EntR m h w es ens.toList:=by
 cases hv with
 | map _ r hu ha =>
  obtain ⟨b,ens,ck,q1,q2,q3,q4⟩:=hr.obj _ _ hg
  have:=ha es hg
  rw [q1] at this
  cases this
  refine ⟨_,ens,ck,rfl,q1,q2,q3,znd (by simpa using q3) fun i k v hi => ?_⟩
  have:=q4 i k v hi
  simpa [Array.getD_eq_getD_getElem?,List.getD_eq_getElem?_getD] using this

theorem za7 {w:World}{kt:TypeId}{d:TypeDesc}{c:Value}(hd:P.underlying kt=some d)(hk:d = .string∨∃ k,d = .int k)(em:Bool)(n:Nat):(Instr.checkKey em (n+1) kt c).run P w = .ok () w:=by
 rcases hk with rfl | ⟨k,rfl⟩ <;> cases c <;> simp [Instr.checkKey,run_underlying hd]
theorem XOK.look {mk:MK}{z:AV}{ok:Bool}{x y:Opd}{id:Nat}{a:AV}{es:List (AV×AV)}{r:Option (Nat×AV)}(hx:ev e x=some (.map id))(hy:ev e y=some a)(hg:h.get id=some (.map es))(hk:keyOK mk a)(hf:findA a es 0=some r) :
  XOK P N (.look mk z ok x y) e h (some (lookR z ok r)) .none:=by
 intro o hc e2 hs m w act hr he
 obtain ⟨t,kt,et,mo,ko,i,zv,hop,hu,h1,h2,hmk,hi,hz,hzv⟩:=zsl hc
 have hx2:ev e2 x=some (.map id):=(z5 fun s h=>hs s (by simp [z10,h])).trans hx
 have hy2:ev e2 y=some a:=(z5 fun s h=>hs s (by simp [z10,h])).trans hy
 have vm:=he.eval h1 hx2
 have vk:=he.eval h2 hy2
 obtain ⟨b,ens,ck,e1,_,hb,hlen,hent⟩:=zh9 hr hg vm
 obtain ⟨d,hd,hd2,hd3⟩:=mkey (m:=m) (w:=w) hmk hk
 obtain ⟨rr,hfn,hfr⟩:=z9k hd2 vk hd3 hent hf
 have vz:VR m h w z zv:=zkb hzv
 have hzr:(zeroValue et).run P w = .ok zv w:=by simp [zeroValue,z18 hi,hz]
 have hck:=za7 (w:=w) (c:=act.eval ko) hd hd2 ens.isEmpty 9999
 have hfk:=MapKept.run_findKey (w:=w) hd hfn
 have key:∃ cv,(Instr.lookup t (act.eval mo) (act.eval ko) ok).run P w = .ok cv w∧VR m h w (lookR z ok r) cv:=by
  rw [e1]
  cases r with
  | none =>
   cases rr with
   | some _ => exact hfr.elim
   | none =>
    refine ⟨if ok then .tuple #[zv,.bool false] else zv,by simp [Instr.lookup,run_underlying hu,MapKept.run_getObj_map hb,hck,hfk,hzr],?_⟩
    cases ok
    ·exact vz
    ·refine .tup _ _ rfl fun j v hj => ?_
     rcases j with _ | _ | j
     ·cases hj;exact vz
     ·cases hj;exact .bool false
     ·simp at hj
  | some iv =>
   cases rr with
   | none => exact hfr.elim
   | some jc =>
    obtain ⟨q1,q2⟩:=hfr
    refine ⟨if ok then .tuple #[jc.2,.bool true] else jc.2,by simp [Instr.lookup,run_underlying hu,MapKept.run_getObj_map hb,hck,hfk],?_⟩
    cases ok
    ·exact q2
    ·refine .tup _ _ rfl fun j v hj => ?_
     rcases j with _ | _ | j
     ·cases hj;exact q2
     ·cases hj;exact .bool true
     ·simp at hj
 obtain ⟨cv,hrun,hv⟩:=key
 exact OpOK.pure hr (by simp [execOp,hop,hrun]) hv

theorem zfj {d:TypeDesc}{ca:Value}:∀ (cs:List MapEntry) (i j:Nat) (c:Value),Instr.findNow d ca cs i=some (some (j,c))→∃ n e,j=i+n∧cs[n]? = some e∧Instr.sameNow d ca e.key=some true
 | [], i, j, c, hf => by simp [Instr.findNow] at hf
 | x :: cs, i, j, c, hf => by
  simp only [Instr.findNow] at hf
  split at hf
  ·rename_i hs
   cases hf
   exact ⟨0,x,rfl,rfl,hs⟩
  ·obtain ⟨n,e,h1,h2,h3⟩:=zfj cs (i+1) j c hf
   exact ⟨n+1,e,by omega,by simpa using h2,h3⟩
  ·cases hf
theorem zof {d:TypeDesc}(hd:d = .string∨∃ k,d = .int k){x y:Value}(hs:Instr.sameNow d x y=some true):y=x∧∀ n,Instr.sameBits n x x=true:=by
 rcases hd with rfl | ⟨k,rfl⟩
 ·cases x <;> cases y <;> simp [Instr.sameNow] at hs
  exact ⟨by rw [(MapKept.bytes_beq _ _).1 hs],fun n=>by simp [Instr.sameBits,(MapKept.bytes_beq _ _).2 rfl]⟩
 ·cases x <;> cases y <;> simp [Instr.sameNow] at hs
  obtain ⟨h1,h2⟩:=hs
  subst h1;subst h2
  exact ⟨rfl,fun n=>by simp [Instr.sameBits]⟩
def putM (es:List (AV×AV))(a v:AV):Option (Nat×AV)→List (AV×AV)
 | none => es ++ [(a, v)]
 | some (i, _) => es.set i (a, v)
theorem zso {o:Oper}{mk:MK}{x y v:Opd}(hc:z7 P N o=some (.mput mk x y v)) :
    ∃ t kt et mo ko vo,(o.op = .mapUpdate t mo ko vo∨o.op = .insert t mo ko vo)∧P.underlying t=some (.map kt et)∧ofOpd N mo=some x∧ofOpd N ko=some y∧ofOpd N vo=some v∧mkind P kt=some mk:=by
  unfold z7 at hc
  split at hc
  case h_3 t mo ko vo hop =>
    split at hc
    · rw [Option.map_eq_some_iff] at hc
      obtain ⟨mk',h1,h2⟩:=hc
      cases h2
      exact ⟨_,_,_,_,_,_,.inl hop,‹_›,‹_›,‹_›,‹_›,h1⟩
    · cases hc
  case h_4 t mo ko vo hop =>
    split at hc
    · rw [Option.map_eq_some_iff] at hc
      obtain ⟨mk',h1,h2⟩:=hc
      cases h2
      exact ⟨_,_,_,_,_,_,.inr hop,‹_›,‹_›,‹_›,‹_›,h1⟩
    · cases hc
  all_goals
    (repeat' split at hc
     all_goals first
       | (cases hc; done)
       | (rw [Option.map_eq_some_iff] at hc; obtain ⟨_, _, h⟩ := hc; cases h; done) | contradiction)

theorem WUpd.map {w:World}{b:Nat}{ens ens':Array MapEntry}{ck ck':Nat}(hb:w.heap[b]? = some (.map ens ck)):WUpd w { w with heap:=w.heap.setIfInBounds b (.map ens' ck') } b :=
 ⟨rfl,rfl,rfl,by simp,fun k hk=>(MapKept.heap_set hb).2 k hk,fun cc T fz h=>by rw [hb] at h;cases h⟩
theorem XOK.mput {mk:MK}{x y z:Opd}{id:Nat}{a v:AV}{es:List (AV×AV)}{r:Option (Nat×AV)}(hx:ev e x=some (.map id))(hy:ev e y=some a)(hz:ev e z=some v)(hg:h.get id=some (.map es))(hk:keyOK mk a)(hf:findA a es 0=some r) :
  XOK P N (.mput mk x y z) e h none (.set id (.map (putM es a v r))):=by
 intro o hc e2 hs m w act hr he
 obtain ⟨t,kt,et,mo,ko,vo,hop,hu,h1,h2,h3,hmk⟩:=zso hc
 have hx2:ev e2 x=some (.map id):=(z5 fun s h=>hs s (by simp [z10,h])).trans hx
 have hy2:ev e2 y=some a:=(z5 fun s h=>hs s (by simp [z10,h])).trans hy
 have hz2:ev e2 z=some v:=(z5 fun s h=>hs s (by simp [z10,h])).trans hz
 have vm:=he.eval h1 hx2
 have vk:=he.eval h2 hy2
 have vv:=he.eval h3 hz2
 obtain ⟨b,ens,ck,e1,hmb,hb,hlen,hent⟩:=zh9 hr hg vm
 obtain ⟨_,ens0,ck0,p1,p2,p3,p4⟩:=hr.obj _ _ hg
 rw [hmb] at p1;cases p1
 rw [hb] at p2;cases p2
 obtain ⟨d,hd,hd2,hd3⟩:=mkey (m:=m) (w:=w) hmk hk
 obtain ⟨rr,hfn,hfr⟩:=z9k hd2 vk hd3 hent hf
 have hck:=za7 (w:=w) (c:=act.eval ko) hd hd2 false 9999
 have hfk:=MapKept.run_findKey (w:=w) hd hfn
 have key:∃ ens' ck',(Instr.mapUpdate t (act.eval mo) (act.eval ko) (act.eval vo)).run P w = .ok () { w with heap:=w.heap.setIfInBounds b (.map ens' ck') }∧(putM es a v r).length=ens'.size ∧
   ∀ (i:Nat) (k u:AV),(putM es a v r)[i]? = some (k,u)→VR m h w k (ens'.getD i default).key∧VR m h w u (ens'.getD i default).val:=by
  rw [e1]
  cases r with
  | none =>
   cases rr with
   | some _ => exact hfr.elim
   | none =>
    refine ⟨ens.push { key:=act.eval ko,val:=act.eval vo,born:=ck },ck+1,by simp [Instr.mapUpdate,run_underlying hu,MapKept.run_getObj_map hb,hck,hfk,MapKept.run_setObj_map _ hb,Result.andThen],by simp [putM,hlen],fun i k u hi => ?_⟩
    simp only [putM] at hi
    by_cases hlt:i < es.length
    ·rw [List.getElem?_append_left hlt] at hi
     have:=p4 i k u hi
     have h5:(ens.push { key:=act.eval ko,val:=act.eval vo,born:=ck }).getD i default=ens.getD i default:=by
      simp [Array.getD_eq_getD_getElem?,Array.getElem?_push_lt (show i < ens.size by omega),show i < ens.size by omega]
     rw [h5];exact this
    ·have hi2:=(List.getElem?_eq_some_iff.1 hi).1
     simp at hi2
     have:i=es.length:=by omega
     subst this
     simp at hi
     obtain ⟨rfl,rfl⟩:=hi
     have h5:(ens.push { key:=act.eval ko,val:=act.eval vo,born:=ck }).getD es.length default={ key:=act.eval ko,val:=act.eval vo,born:=ck }:=by
      rw [hlen];simp [Array.getD_eq_getD_getElem?]
     rw [h5];exact ⟨vk,vv⟩
  | some iv =>
   cases rr with
   | none => exact hfr.elim
   | some jc =>
    obtain ⟨j,c⟩:=jc
    obtain ⟨i0,v0⟩:=iv
    obtain ⟨q1,q2⟩:=hfr
    subst q1
    obtain ⟨n,en,q3,q4,q5⟩:=zfj _ _ _ _ hfn
    have q6:n=i0:=by omega
    subst q6
    obtain ⟨q7,q8⟩:=zof hd2 q5
    have hj:ens[n]? = some en:=by simpa using q4
    refine ⟨ens.modify n fun e=>{ e with key:=act.eval ko,val:=act.eval vo },ck,by simp [Instr.mapUpdate,run_underlying hu,MapKept.run_getObj_map hb,hck,hfk,hj,q7,Instr.keyThatStays,q8,MapKept.run_setObj_map _ hb,Result.andThen],by simp [putM,hlen],fun i k u hi => ?_⟩
    simp only [putM] at hi
    by_cases hin:n=i
    ·subst hin
     have hlt:n < es.length:=by
      have:=(List.getElem?_eq_some_iff.1 hi).1
      simpa using this
     rw [List.getElem?_set_self hlt] at hi
     cases hi
     have h5:(ens.modify n fun e=>{ e with key:=act.eval ko,val:=act.eval vo }).getD n default={ en with key:=act.eval ko,val:=act.eval vo }:=by
      simp [Array.getD_eq_getD_getElem?,Array.getElem?_modify,hj]
     rw [h5];exact ⟨vk,vv⟩
    ·rw [List.getElem?_set_ne hin] at hi
     have:=p4 i k u hi
     have h5:(ens.modify n fun e=>{ e with key:=act.eval ko,val:=act.eval vo }).getD i default=ens.getD i default:=by
      simp [Array.getD_eq_getD_getElem?,Array.getElem?_modify,hin]
     rw [h5];exact this
 obtain ⟨ens',ck',hrun,hl',hv'⟩:=key
 have wu:WUpd w { w with heap:=w.heap.setIfInBounds b (.map ens' ck') } b:=WUpd.map hb
 have st:=z2b hr hg hmb (x1 := .map (putM es a v r)) trivial wu
 refine ⟨m,_,hr.set (x1 := .map (putM es a v r)) hg hmb trivial wu ⟨b,ens',ck',hmb,(MapKept.heap_set hb).1,hl',fun i k u hi=>⟨(hv' i k u hi).1.step st,(hv' i k u hi).2.step st⟩⟩,st,?_⟩
 rcases hop with hop | hop <;> simp [execOp,hop,hrun]

theorem zsp {o:Oper}{x:Opd}(hc:z7 P N o=some (.mlen x)):∃ c xo t kt et,o.op = .call c∧c.callee = .builtin .len∧c.args.toList=[xo]∧c.argTypes[0]? = some t∧P.underlying t=some (.map kt et)∧ofOpd N xo=some x:=by
  cases hop:o.op <;> simp only [z7,hop] at hc <;> try (cases hc;done)
  case call c =>
    split at hc
    case h_1 hcal =>
      repeat' split at hc
      all_goals first
        | (cases hc; exact ⟨_, _, _, _, _, rfl, hcal, ‹_›, ‹_›, ‹_›, ‹_›⟩)
        | (cases hc; done)
    all_goals
      (repeat' split at hc
       all_goals (cases hc;done))
  all_goals
    (repeat' split at hc
     all_goals first
       | (cases hc; done)
       | (rw [Option.map_eq_some_iff] at hc; obtain ⟨_, _, h⟩ := hc; cases h; done) | contradiction)
theorem XOK.mlen {x:Opd}{id:Nat}{es:List (AV×AV)}(hx:ev e x=some (.map id))(hg:h.get id=some (.map es)):XOK P N (.mlen x) e h (some (.int .i64 es.length)) .none:=by
 intro o hc e2 hs m w act hr he
 obtain ⟨c,xo,t,kt,et,hop,hcal,ha,hat,hu,h1⟩:=zsp hc
 have hx2:ev e2 x=some (.map id):=(z5 fun s h=>hs s (by simp [z10,h])).trans hx
 obtain ⟨b,ens,ck,e1,hmb,hb,hlen,hent⟩:=zh9 hr hg (he.eval h1 hx2)
 have ha':c.args=#[xo]:=by rw [← Array.toArray_toList (xs:=c.args),ha]
 refine OpOK.pure hr ?_ (.int _ _)
 simp [execOp,hop,resolve,hcal,ha',invoke,builtin,Builtin.len_,hat,e1,run_underlying hu,MapKept.run_getObj_map hb,goInt,hlen]

end
end Go.Abs

namespace Go.Abs
open Go

section
variable {P:Program}{N:Nat}{e e':Env}{h h':AHeap}{l:List CI}{Q:Exit→Env→AHeap→Prop}

def FQ (P:Program)(N:Nat)(c:CI)(e:Env)(h:AHeap)(R:Option AV→AHeap→Prop):Prop :=
 ∀ (ops:Array Oper) (i:Nat) (o:Oper),ops[i]? = some o→compI P N ops o=c→∀ (m:Inj) (w:World) (a:Act) (K:Act→World→Prop) (Q:Exit→Act→World→Prop),
  HR m h w→ER N m h w e a→(∀ r h' m' w' a',R r h'→HR m' h' w'→ER N m' h' w' (putR c.d r e) a'→Step m h w m' h' w'→K a' w')→wpOp P ops Q i K a w
theorem AL.fq {c:CI}{R:Option AV→AHeap→Prop}(hx:FQ P N c e h R)(hrest:∀ r h',R r h'→AL P N l Q (putR c.d r e) h'):AL P N (c::l) Q e h:=by
 intro ops idx hlt hl m w a hr he
 cases idx with
 | nil => simp at hl
 | cons i idx =>
  simp only [List.map_cons,List.cons.injEq] at hl
  obtain ⟨hc,hl⟩:=hl
  have hilt:=hlt i (by simp)
  have ho:ops[i]? = some ops[i]:=Array.getElem?_eq_getElem hilt
  have hget:ops.getD i default=ops[i]:=by simp [hilt]
  rw [hget] at hc
  rw [wpOps_cons]
  refine hx ops i _ ho hc m w a _ _ hr he fun r h' m' w' a' hR h1 h2 h3 => ?_
  exact z15 (fun _ _ _ hp=>PA.from h3 hp) idx _ _ (hrest r h' hR ops idx (fun j hj=>hlt j (by simp [hj])) hl m' w' a' h1 h2)

theorem zog {ops:Array Oper}{o:Oper}{d:Option Nat}{i:Ins}{g:Option (Nat×Bool)}{m:Inj}{w:World}{a:Act}(he:ER N m h w e a)(hg:met e g)
  (hgd:match o.guard with | none=>(CI.mk d i g).g=none | some (j,b)=>∃ s,(ops[j]?).bind (·.dst)=some s∧(CI.mk d i g).g=some (s,b)):Region.wanted o (yielded ops a.tmps)=true:=by
 obtain ⟨w1,w2⟩:=zl he hgd
 cases g with
 | none => exact w1 rfl
 | some sb =>
  obtain ⟨s,b⟩:=sb
  rw [w2 s b b rfl hg];simp

theorem FQ.of {d:Option Nat}{i:Ins}{g:Option (Nat×Bool)}{R:Option AV→AHeap→Prop}(hni:i≠.bad)(hg:met e g)
  (hx:∀ (ops:Array Oper) (o:Oper),compI P N ops o=⟨d,i,g⟩→∀ (m:Inj) (w:World) (a:Act),HR m h w→ER N m h w e a→∃ r f,R r (f.on h.next h)∧OpOK P o a m h w h.next r f):FQ P N ⟨d,i,g⟩ e h R:=by
 intro ops i o ho hc m w a K Q hr he hk
 rcases zx hc with ⟨hb1,hb2⟩ | ⟨hd,hdst,_,hgd⟩
 ·exact absurd hb1 hni
 ·simp only [wpOp,ho]
  rw [if_pos (zog he hg hgd)]
  left
  obtain ⟨r,f,hR,m',w',hr',st,hres⟩:=hx ops o hc m w a hr he
  have hd':d=o.dst:=hd
  unfold Oper.wp
  cases r with
  | some v =>
   obtain ⟨cv,hrun,hv⟩:=hres
   rw [hrun,Oper.upon_value]
   refine hk _ _ m' w' _ hR hr' ?_ st
   show ER N m' _ w' (putR d (some v) e) _
   rw [hd']
   exact (he.step st).putR hdst hv
  | none =>
   rw [hres,Oper.upon_skip]
   refine hk _ _ m' w' _ hR hr' ?_ st
   show ER N m' _ w' (putR d none e) _
   rw [hd']
   exact (he.step st).skipR _ _
theorem z5w {ops:Array Oper}{o:Oper}{d:Option Nat}{i:Ins}{g:Option (Nat×Bool)}(hc:compI P N ops o=⟨d,i,g⟩)(hp:i.plain=true):zb P N o=some i:=by
 rcases zx hc with ⟨hb1,hb2⟩ | ⟨_,_,h3,_⟩
 ·have hb:i = .bad:=hb1
  subst hb;cases hp
 ·exact h3 hp

theorem zd3 {t el:TypeId}{w:World}(ht:P.underlying t=some (.slice el))(d:Nat)(l c:Nat):(Op.equalIn (d+1) t (.slice none l c) (.slice none 0 0)).run P w = .ok true w:=by
 simp [Op.equalIn,run_underlying ht]
theorem zqy {o:Oper}{neg:Bool}{x:Opd}(hc:zb P N o=some (.isnil neg x)):∃ op t u el xo,(op = .eql∧neg=false∨op = .neq∧neg=true)∧P.underlying t=some (.slice el)∧o.op = .binOp op t xo (.const (.slice none 0 0)) u∧ofOpd N xo=some x:=by
  cases hop:o.op <;> simp only [zb,hop] at hc <;> try (cases hc;done)
  case binOp op t x0 y u =>
    cases op <;> simp only at hc
    all_goals
      repeat' split at hc
    all_goals first
      | (cases hc; done)
      | (cases hc; exact ⟨_, _, _, _, _, .inl ⟨rfl, rfl⟩, ‹_›, rfl, ‹_›⟩)
      | (cases hc; exact ⟨_, _, _, _, _, .inr ⟨rfl, rfl⟩, ‹_›, rfl, ‹_›⟩)
      | (rw [Option.map_eq_some_iff] at hc; obtain ⟨_, _, h⟩ := hc; cases h; done)
  all_goals
    (repeat' split at hc
     all_goals first
       | (cases hc; done)
       | (rw [Option.map_eq_some_iff] at hc; obtain ⟨_, _, h⟩ := hc; cases h; done) | contradiction)
theorem FQ.isnil {d:Option Nat}{neg:Bool}{x:Opd}{g:Option (Nat×Bool)}{c:List (List AV)}{sz:Nat}(hx:ev e x=some (.imm sz c))(hg:met e g) :
  FQ P N ⟨d,.isnil neg x,g⟩ e h (fun r h'=>∃ b:Bool,r=some (.bool (if neg then !b else b))∧h'=h∧(b=true→c=[])):=by
 refine FQ.of (by simp) hg fun ops o hc m w a hr he => ?_
 obtain ⟨op,t,u,el,xo,hop,ht,ho,h1⟩:=zqy (z5w hc rfl)
 have e1:=he.eval h1 hx
 have key:∃ b:Bool,(b=true→c=[])∧∃ l cp ad,a.eval xo = .slice ad l cp∧b=ad.isNone:=by
  generalize a.eval xo=cx at e1
  cases e1 with
  | imm0 => exact ⟨true, fun _ => rfl, _, _, _, rfl, rfl⟩
  | imm1 => exact ⟨false, fun h => (nomatch h), _, _, _, rfl, rfl⟩
  | imm => exact ⟨false, fun h => (nomatch h), _, _, _, rfl, rfl⟩
 obtain ⟨b,hb,l,cp,ad,hx1,rfl⟩:=key
 refine ⟨_,.none,⟨ad.isNone,rfl,rfl,hb⟩,?_⟩
 have heq:(Op.equal t (.slice ad l cp) (.slice none 0 0)).run P w = .ok ad.isNone w:=by
  cases ad with
  | none => exact zd3 ht 9999 l cp
  | some ad => exact z69 ht 9999 ad l cp
 have hy:a.eval (.const (.slice none 0 0)) = .slice none 0 0:=rfl
 refine OpOK.pure hr (cv := .bool (if neg then !ad.isNone else ad.isNone)) ?_ (by cases neg <;> exact .bool _)
 rcases hop with ⟨rfl,rfl⟩ | ⟨rfl,rfl⟩
 ·simp [execOp,ho,hx1,hy,eqGuard_at_slice,binOp,heq]
 ·simp [execOp,ho,hx1,hy,eqGuard_at_slice,binOp,heq]

theorem z8h {o:Oper}{y:Ex}(hc:z7 P N o=some y)(hy:match y with | .caps _ | .appz _ _ _ _ _ | .callx _ _ | .inv _ _ _ | .clr _ _ _=>True | _=>False):∃ c,o.op = .call c:=by
  cases hop:o.op <;> simp only [z7,hop] at hc <;> try (cases hc;done)
  case call c=>exact ⟨c,rfl⟩
  all_goals
    (repeat' split at hc
     all_goals first
       | (cases hc; cases hy; done)
       | (cases hc; done)
       | (rw [Option.map_eq_some_iff] at hc; obtain ⟨_, _, h⟩ := hc; subst h; cases hy; done)
       | contradiction)
theorem zsq {o:Oper}{x:Opd}(hc:z7 P N o=some (.caps x)):∃ c xo t el,o.op = .call c∧c.callee = .builtin .cap∧c.args.toList=[xo]∧c.argTypes[0]? = some t∧P.underlying t=some (.slice el)∧ofOpd N xo=some x:=by
  obtain ⟨c,hop⟩:=z8h hc trivial
  simp only [z7,hop] at hc
  split at hc
  case h_2 hcal =>
    repeat' split at hc
    all_goals first
      | (cases hc; exact ⟨_, _, _, _, hop, hcal, ‹_›, ‹_›, ‹_›, ‹_›⟩)
      | (cases hc; done)
  all_goals
    (repeat' split at hc
     all_goals (cases hc;done))
theorem XOK.caps0 {x:Opd}(hx:ev e x=some .nils):XOK P N (.caps x) e h (some (.int .i64 0)) .none:=by
 intro o hc e2 hs m w act hr he
 obtain ⟨c,xo,t,el,hop,hcal,ha,hat,hu,h1⟩:=zsq hc
 have hx2:ev e2 x=some .nils:=(z5 fun s h=>hs s (by simp [z10,h])).trans hx
 have ha':c.args=#[xo]:=by rw [← Array.toArray_toList (xs:=c.args),ha]
 have e1:=he.eval h1 hx2
 generalize hcx:act.eval xo=cx at e1
 refine OpOK.pure hr (cv := .int .i64 0) ?_ (.int _ _)
 cases e1 <;> simp [execOp,hop,resolve,hcal,ha',invoke,builtin,Builtin.cap_,hat,hcx,run_underlying hu,goInt]

theorem zsr {o:Oper}{sz bytes:Nat}{zs:List AV}{x y:Opd}(hc:z7 P N o=some (.appz sz bytes zs x y)):∃ c s n t u el k i z,o.op = .call c∧c.callee = .builtin .append∧c.args.toList=[s,n]∧c.argTypes.toList=[t,u]∧P.underlying t=some (.slice el)∧P.underlying u=some (.int k) ∧
    ofOpd N s=some x∧ofOpd N n=some y∧P.info? el=some i∧i.zero=some z∧ofL ofV z.cells.toList=some zs∧0 < i.size∧0 < i.bytes∧z.cells.size=i.size∧sz=i.size∧bytes=i.bytes:=by
  obtain ⟨c,hop⟩:=z8h hc trivial
  simp only [z7,hop] at hc
  split at hc
  case h_3 hcal =>
    repeat' split at hc
    all_goals first
      | (rename_i hcond; cases hc; exact ⟨_, _, _, _, _, _, _, _, _, hop, hcal, ‹_›, ‹_›, ‹_›, ‹_›, ‹_›, ‹_›, ‹_›, ‹_›, ‹_›, hcond.1, hcond.2.1, hcond.2.2, rfl, rfl⟩)
      | (cases hc; done)
  all_goals
    (repeat' split at hc
     all_goals (cases hc;done))
theorem z5f {z:Array Value}{n k:Nat}(hk:k < n*z.size):(Builtin.zeroCells z n)[k]? = some (z.getD (k % z.size) undef):=by
 have hz:0 < z.size:=by
  rcases Nat.eq_zero_or_pos z.size with h | h
  ·rw [h] at hk;omega
  ·exact h
 have hm:k % z.size < z.size:=Nat.mod_lt _ hz
 simp [Builtin.zeroCells,hk,Array.getD_eq_getD_getElem?,hm]
theorem zif {m:Inj}{w:World}{z:Value}{zs:List AV}{sz n:Nat}(hzs:ofL ofV z.cells.toList=some zs)(hsz:z.cells.size=sz)(h0:0 < sz){F:Nat→Value}(hF:∀ k,k < n*sz→F k=z.cells.getD (k % sz) undef):RowF m h w sz (List.replicate n zs) F:=by
 obtain ⟨q1,q2,q3⟩:=z4k (m:=m) (h:=h) (w:=w) hzs
 refine ⟨fun x hx => ?_,fun x hx => ?_,fun i cells hi j v hj => ?_⟩
 ·obtain ⟨_,rfl⟩:=List.mem_replicate.1 hx;simpa [hsz] using q1
 ·obtain ⟨_,rfl⟩:=List.mem_replicate.1 hx;exact q2
 ·rw [List.getElem?_replicate] at hi
  split at hi
  ·rename_i hlt
   cases hi
   have hjs:j < sz:=by
    have:=(List.getElem?_eq_some_iff.1 hj).1
    have h6:zs.length=sz:=by simpa [hsz] using q1
    omega
   rw [hF _ (z65 hlt hjs),Nat.mul_comm,Nat.mul_add_mod,Nat.mod_eq_of_lt hjs]
   have:=q3 j v hj
   simpa [Array.getD_eq_getD_getElem?,List.getD_eq_getElem?_getD] using this
  ·cases hi
theorem zha {m:Inj}{w:World}{nm sz off len cap:Nat}{c:List (List AV)}{cc:Array Value}{T:TypeId}(h1:off+len≤c.length)(h2:len≤cap)(h3:(off+cap)*sz≤cc.size) :
  VR (upd m nm (some (w.heap.size,0))) (h.put nm (.mem sz c)) (w.alloc (.cells cc T)) (.ref nm off len) (.slice (some ⟨w.heap.size,off*sz,none⟩) len cap):=by
 refine .ref nm off len cap _ z2 h2 fun sz' c' hg => ?_
 simp only [AHeap.put,if_true,Option.some.injEq,AObj.mem.injEq] at hg
 obtain ⟨rfl,rfl⟩:=hg
 exact ⟨w.heap.size,by simp [upd],h1,.inr rfl,cc,T,heap_alloc_new w _,h3⟩
theorem XOK.appz {sz bytes n:Nat}{zs:List AV}{x y:Opd}{k:IntKind}{a:Int}(hx:ev e x=some .nils)(hy:ev e y=some (.int k a))(ha:a=n)(h0:0 < n)(hb:n*bytes≤140737488355328) :
  XOK P N (.appz sz bytes zs x y) e h (some (.ref h.next 0 n)) (.new (.mem sz (List.replicate n zs))):=by
 subst ha
 intro o hc e2 hs m w act hr he
 obtain ⟨c,s,no,t,u,el,kk,i,z,hop,hcal,hargs,hat,hu,hu2,h1,h2,hi,hz,hzs,p1,p2,p3,rfl,rfl⟩:=zsr hc
 have hx2:ev e2 x=some .nils:=(z5 fun s h=>hs s (by simp [z10,h])).trans hx
 have hy2:ev e2 y=some (.int k n):=(z5 fun s h=>hs s (by simp [z10,h])).trans hy
 have ha':c.args=#[s,no]:=by rw [← Array.toArray_toList (xs:=c.args),hargs]
 have hat':c.argTypes=#[t,u]:=by rw [← Array.toArray_toList (xs:=c.argTypes),hat]
 have e1:=he.eval h1 hx2
 have e3:=zm (he.eval h2 hy2)
 have hn1:n*1≤n*i.bytes:=Nat.mul_le_mul_left _ p2
 have hg:=grownCap_ge w n 0 el
 have fin:∀ cc:Array Value,(∀ k,k < n*i.size→cc.getD k undef=z.cells.getD (k % i.size) undef)→grownCap w n 0 el*i.size≤cc.size→(execOp act.eval o).run P w = .ok (.value (.slice (some ⟨w.heap.size,0,none⟩) n (grownCap w n 0 el))) (w.drew.alloc (.cells cc el)) →
   OpOK P o act m h w h.next (some (.ref h.next 0 n)) (.new (.mem i.size (List.replicate n zs))):=by
  intro cc hcc hsz hrun
  have hr1:=hr.drew
  have hf:=z11 hr
  obtain ⟨r1,r2⟩:=z4l (T:=el) (cc:=cc) (sz:=i.size) (c:=List.replicate n zs) hr1 hf (by
   simp only [List.length_replicate]
   have:n*i.size≤grownCap w n 0 el*i.size:=Nat.mul_le_mul_right _ hg
   omega) (zif hzs p3 p1 hcc)
  refine ⟨_,_,r1,step_drew.trans r2,_,hrun,?_⟩
  have:=zha (m:=m) (h:=h) (w:=w.drew) (nm:=h.next) (sz:=i.size) (off:=0) (len:=n) (cap:=grownCap w n 0 el) (c:=List.replicate n zs) (cc:=cc) (T:=el) (by simp) hg (by simpa using hsz)
  simp only [Nat.zero_mul] at this
  exact this
 generalize hcx:act.eval s=cx at e1
 have hz1:z.cells.size=i.size:=p3
 have go:∀ base,(Builtin.append_ #[t,u] o.type #[.slice base 0 0,.int k n]).run P w = .ok (.slice (some ⟨w.heap.size,0,none⟩) n (grownCap w n 0 el)) (w.drew.alloc (.cells (Builtin.zeroCells z.cells n++Builtin.zeroCells z.cells (grownCap w n 0 el - n)) el)):=by
  intro base
  have hn:n≠0:=by omega
  have hw:IntKind.i64.wrap (n:Int)=n:=by rw [IntKind.wrap_i64];omega
  have h63':¬ (9223372036854775807 < (n:Int)):=by omega
  have h48':¬ (281474976710656 < Builtin.nextslicecap n 0*i.bytes):=by rw [nextslicecap_zero h0];omega
  have h48i:¬ (281474976710656 < (n:Int)*(i.bytes:Int)):=by
   rw [← Int.natCast_mul]
   omega
  have hneg:¬ ((n:Int) < 0):=by omega
  have hns:¬ (n*i.size=0):=Nat.mul_ne_zero hn (by omega)
  cases base with
  | none => exact Lib.run_append_nil_zeros (P := P) w t u o.type el i z k kk hu hu2 hi hz n h0 p1 (by omega) (by omega)
  | some bb => simp [Builtin.append_, run_underlying hu, run_underlying hu2, sizeOf, typeInfo, zeroValue, hi, hz, asInt, asIntOf, hw, hn, hneg, hns, h63', h48', h48i, Question.forced, Builtin.firstCells, loadCells, loadCellsFrom, newRow, grownCap]
 have hrun:∃ base,cx = .slice base 0 0:=by
  cases e1 with
  | nils0 => exact ⟨_, rfl⟩
  | nils1 ad => exact ⟨_, rfl⟩
 obtain ⟨base,rfl⟩:=hrun
 refine fin (Builtin.zeroCells z.cells n++Builtin.zeroCells z.cells (grownCap w n 0 el - n)) ?_ ?_ (by simp [execOp,hop,resolve,hcal,ha',hat',invoke,builtin,hcx,e3,go base])
 ·intro k hk
  have:=z5f (z:=z.cells) (n:=n) (k:=k) (by rw [hz1];exact hk)
  rw [Array.getD_eq_getD_getElem?,Array.getElem?_append_left (by simp [Builtin.zeroCells,hz1,hk]),this,hz1]
  rfl
 ·simp only [Array.size_append,size_zeroCells,hz1,← Nat.add_mul]
  exact Nat.mul_le_mul_right _ (by omega)
end
end Go.Abs

namespace Go.Abs
open Go

section
variable {P:Program}{N:Nat}{e e':Env}{h h':AHeap}{l:List CI}{Q:Exit→Env→AHeap→Prop}

def SubV (u v:AV):Prop:=∀ (m:Inj) (h:AHeap) (w:World) (c:Value),VR m h w u c→VR m h w v c
theorem SubV.refl (u:AV):SubV u u:=fun _ _ _ _ hv=>hv
theorem SubV.nil {sz:Nat}:SubV .nils (.imm sz []):=fun m h w c hv=>by
 cases hv with
 | nils0 => exact .imm0 _
 | nils1 a => exact .imm1 _ _ _
theorem SubV.app {id g sz:Nat}{c:List (List AV)}:SubV (.app id g sz c) (.imm sz c):=fun m h w cv hv=>by
 cases hv with
 | app0 => exact .imm0 _
 | app1 => exact .imm1 _ _ _
 | app _ _ _ _ b cap F hu hic hl hsc hrr hcap ht => exact .imm _ _ _ _ _ F hic hl hsc hrr hcap
inductive SubL:List AV→List AV→Prop
 | nil : SubL [] []
 | cons {u v : AV} {us vs : List AV} (h1 : SubV u v) (h2 : SubL us vs) : SubL (u :: us) (v :: vs)
theorem SubL.len {us vs:List AV}(hs:SubL us vs):us.length=vs.length:=by
 induction hs with
 | nil => rfl
 | cons _ _ ih => simp [ih]
theorem SubL.get {us vs:List AV}(hs:SubL us vs):∀ (i:Nat) (u v:AV),us[i]? = some u→vs[i]? = some v→SubV u v:=by
 induction hs with
 | nil => intro i u v hu; simp at hu
 | cons h1 _ ih =>
  intro i u v hu hv
  cases i with
  | zero => cases hu; cases hv; exact h1
  | succ i => exact ih i u v (by simpa using hu) (by simpa using hv)
theorem SubV.agg {us vs:List AV}(hs:SubL us vs)(hsc:∀ v∈vs,AV.scalar v=true):SubV (.agg us) (.agg vs):=fun m h w c hv=>by
 cases hv with
 | agg _ cs q1 q2 q3 =>
  refine .agg _ _ (by rw [← hs.len];exact q1) hsc fun i v hi => ?_
  have hlt:i < us.length:=by rw [hs.len];exact (List.getElem?_eq_some_iff.1 hi).1
  exact hs.get i _ v (List.getElem?_eq_getElem hlt) hi _ _ _ _ (q3 i _ (List.getElem?_eq_getElem hlt))
theorem AC.sub {f:Nat}{us vs:List AV}{R:AV→AHeap→Prop}(hs:SubL us vs)(hac:AC P f vs h R):AC P f us h R:=fun m w cargs hr hl hv =>
 hac m w cargs hr (by rw [← hs.len];exact hl) fun i v hi=>by
  have hlt:i < us.length:=by rw [hs.len];exact (List.getElem?_eq_some_iff.1 hi).1
  exact hs.get i _ v (List.getElem?_eq_getElem hlt) hi _ _ _ _ (hv i _ (List.getElem?_eq_getElem hlt))
theorem AE.sub {f:Nat}{us vs:List AV}{r:AV}(hs:SubL us vs)(hac:AE P f vs h r h'):AE P f us h r h':=AC.sub hs hac
theorem Cvt.sub1 {s:Nat}{u v:AV}(hs:lk s e=some u)(hv:SubV u v):Cvt e h ((s,some v)::e) h :=
 Cvt.put fun _ m w a hr he=>hv _ _ _ _ (he.val s u hs)

theorem zne {m:Inj}{w:World}{id n sz nm:Nat}{c:List (List AV)}(hr:HR m h w)(hf:¬ h.used nm)(hg:h.get id=some (.mem sz c)){v:Value}(hv:VR m h w (.ref id 0 n) v) :
  ∃ m',HR m' ((h.set id none).put nm (.tail 0 n)) w∧Step m h w m' ((h.set id none).put nm (.tail 0 n)) w∧VR m' ((h.set id none).put nm (.tail 0 n)) w (.app nm 0 sz (c.take n)) v:=by
 have hrd:=hr.del id
 have sd:Step m h w m (h.set id none) w:=z2a id
 have hfd:¬ (h.set id none).used nm:=hf
 cases hv with
 | ref _ _ _ cap a hu hc ha =>
  obtain ⟨b,hb,hle,had,cc,T,hcc,hsz⟩:=ha _ _ hg
  obtain ⟨b',cc',T',q1,q2,q3,q4⟩:=hr.obj _ _ hg
  rw [hb] at q1;cases q1
  rw [q2] at hcc;cases hcc
  have hlen:(c.take n).length=n:=by simp;omega
  have hne:id≠nm:=z3e hf hu
  -- the token's place
  have key:∀ p:Option (Nat×Nat),(∀ x,p=some x→x=(b,n*sz))→HR (upd m nm p) ((h.set id none).put nm (.tail 0 n)) w∧Step m h w (upd m nm p) ((h.set id none).put nm (.tail 0 n)) w:=by
   intro p hp
   have sub:∀ j y,j≠nm→((h.set id none).put nm (.tail 0 n)).get j=some y→h.get j=some y∧j≠id:=fun j y hj hgj=>by
    simp only [AHeap.put,if_neg hj,AHeap.set] at hgj
    by_cases e:j=id
    ·simp [e] at hgj
    ·rw [if_neg e] at hgj;exact ⟨hgj,e⟩
   have st:Step m h w (upd m nm p) ((h.set id none).put nm (.tail 0 n)) w:={
    os:=rfl
    tape:=rfl
    output:=rfl
    size:=Nat.le_refl _
    kind:=fun k cc T fz hb _=>⟨cc,hb,rfl⟩
    free:=fun k hk hfr=>⟨rfl,fun j s y hgj hmj=>by
     by_cases e:j=nm
     ·subst e
      simp only [upd,if_true] at hmj
      cases hp _ hmj
      exact hfr id 0 _ hg hb
     ·simp only [upd,if_neg e] at hmj;exact hfr j s y (sub j y e hgj).1 hmj⟩
    cell:=fun k o v hcell hn=>⟨hcell,fun ⟨j,s,⟨y,hgj⟩,hmj,hle⟩=>by
     by_cases e:j=nm
     ·subst e
      simp only [upd,if_true] at hmj
      cases hp _ hmj
      exact hn ⟨id,0,⟨_,hg⟩,hb,Nat.zero_le _⟩
     ·simp only [upd,if_neg e] at hmj;exact hn ⟨j,s,⟨y,(sub j y e hgj).1⟩,hmj,hle⟩⟩
    used:=fun _ hu=>zw (h:=h.set id none) hu
    live:=fun j x' huj hgj=>by
     have e:j≠nm:=z3e hf huj
     exact ⟨x',(sub j x' e hgj).1,fun _=>by simp [upd,e],Compat.refl _⟩ }
   refine ⟨⟨hrd.put_gapl,hrd.put_live,fun i j y z b2 s r hi hj hmi hmj => ?_,fun j y hgj => ?_⟩,st⟩
   ·by_cases ei:i=nm <;> by_cases ej:j=nm
    ·rw [ei,ej]
    ·subst ei
     simp only [upd,if_true] at hmi
     simp only [upd,if_neg ej] at hmj
     cases hp _ hmi
     exact absurd (hr.inj j id z _ b r 0 (sub j z ej hj).1 hg hmj hb) (sub j z ej hj).2
    ·subst ej
     simp only [upd,if_true] at hmj
     simp only [upd,if_neg ei] at hmi
     cases hp _ hmj
     exact absurd (hr.inj i id y _ b s 0 (sub i y ei hi).1 hg hmi hb) (sub i y ei hi).2
    ·simp only [upd,if_neg ei,if_neg ej] at hmi hmj
     exact hr.inj i j y z b2 s r (sub i y ei hi).1 (sub j z ej hj).1 hmi hmj
   ·by_cases e:j=nm
    ·subst e
     simp only [AHeap.put,if_true] at hgj
     cases hgj
     intro b2 s hmc
     simp only [upd,if_true] at hmc
     cases hp _ hmc
     exact ⟨cc,T,q2⟩
    ·exact (hr.obj j y (sub j y e hgj).1).step st (by simp [upd,e]) fun _ _ _=>rfl
  rcases Nat.eq_zero_or_pos cap with hc0 | hc0
  ·subst hc0
   obtain rfl:n=0:=by omega
   obtain ⟨k1,k2⟩:=key none (by simp)
   refine ⟨_,k1,k2,?_⟩
   simp only [List.take_zero]
   exact .app1 _ _ _ _ z2 (z4n (by simp [upd]))
  ·rcases had with h00 | rfl
   ·omega
   ·obtain ⟨k1,k2⟩:=key (some (b,n*sz)) (by rintro x hx;cases hx;rfl)
    refine ⟨_,k1,k2,?_⟩
    have hrow:=(q4.take n)
    have hmul:n*sz≤c.length*sz:=Nat.mul_le_mul_right _ (by omega)
    have:=VR.app (m:=upd m nm (some (b,n*sz))) (h:=(h.set id none).put nm (.tail 0 n)) (w:=w) nm 0 sz (c.take n) b cap (fun k=>cc.getD k undef) z2 (fun k hk=>⟨?_,?_⟩) hrow.1 hrow.2.1 (fun i cells hi j v hj=>(hrow.2.2 i cells hi j v hj).step k2) (by omega)
     (by rw [hlen];exact z4n ⟨by simp [upd],cc,T,q2,by rw [Nat.zero_add] at hsz;exact hsz⟩)
    ·rw [hlen] at this
     simpa using this
    ·rw [hlen] at hk
     rw [Nat.zero_add,cell_of_row w b _ cc T (0,0) q2]
     simp [Array.getD_eq_getD_getElem?,show k < cc.size by omega]
    ·rw [hlen] at hk
     rintro ⟨j,t,⟨x,hx⟩,hm,hle2⟩
     by_cases e:j=nm
     ·subst e;simp only [upd,if_true] at hm;cases hm;omega
     ·simp only [upd,if_neg e] at hm
      simp only [AHeap.put,if_neg e,AHeap.set] at hx
      by_cases e2:j=id
      ·simp [e2] at hx
      ·rw [if_neg e2] at hx
       exact e2 (hr.inj j id x _ b t 0 hx hg hm hb)
theorem Cvt.grow {s id n sz nx:Nat}{c c':List (List AV)}(hs:lk s e=some (.ref id 0 n))(hg:h.get id=some (.mem sz c))(hc:c.take n=c')(hn:h.next=nx):Cvt e h ((s,some (.app nx 0 sz c'))::e) ((h.set id none).put nx (.tail 0 n)):=fun N m w a hr he=>by
 subst hn hc
 obtain ⟨m',k1,k2,k3⟩:=zne hr (z11 hr) hg (he.val s _ hs)
 refine ⟨m',k1,?_,k2⟩
 have he':=he.step k2
 refine ⟨he'.size,he'.defers,fun i v hi => ?_⟩
 simp only [z6,z1o] at hi
 split at hi
 ·rename_i e1;subst e1;cases hi;exact k3
 ·exact he'.val i v hi

theorem HR.retell {m:Inj}{w:World}(hr:HR m h w){id sz:Nat}{c c':List (List AV)}(hg:h.get id=some (.mem sz c))(hl:c'.length=c.length)
  (hrow:∀ F,RowF m h w sz c F→RowF m h w sz c' F):HR m (h.set id (some (.mem sz c'))) w∧Step m h w m (h.set id (some (.mem sz c'))) w:=by
 obtain ⟨b,cc,T,q1,q2,q3,q4⟩:=hr.obj _ _ hg
 have wu:WUpd w w b:=⟨rfl,rfl,rfl,rfl,fun _ _=>rfl,fun cc T fz h=>⟨cc,h,rfl⟩⟩
 have hcm:Compat (.mem sz c) (.mem sz c'):=⟨rfl,by omega⟩
 have st:=z2b hr hg q1 hcm wu
 exact ⟨hr.set hg q1 hcm wu ⟨b,cc,T,q1,q2,by rw [hl];exact q3,(hrow _ q4).step st⟩,st⟩
theorem RowF.one_cell {m:Inj}{w:World}{sz i j:Nat}{c:List (List AV)}{cells:List AV}{u v:AV}(hi:c[i]? = some cells)(hj:cells[j]? = some u)(hsc:v.scalar=true)(hv:∀ cv,VR m h w u cv→VR m h w v cv) :
  ∀ F,RowF m h w sz c F→RowF m h w sz (c.set i (cells.set j v)) F:=by
 intro F ⟨q1,q2,q3⟩
 have hlt:i < c.length:=(List.getElem?_eq_some_iff.1 hi).1
 refine ⟨fun x hx => ?_,fun x hx y hy => ?_,fun k cs hk t y hy => ?_⟩
 ·rcases List.mem_or_eq_of_mem_set hx with hx | rfl
  ·exact q1 x hx
  ·simpa using q1 cells (List.mem_of_getElem? hi)
 ·rcases List.mem_or_eq_of_mem_set hx with hx | rfl
  ·exact q2 x hx y hy
  ·rcases List.mem_or_eq_of_mem_set hy with hy | rfl
   ·exact q2 cells (List.mem_of_getElem? hi) y hy
   ·exact hsc
 ·rw [List.getElem?_set] at hk
  split at hk
  ·rename_i e
   subst e
   have hk':cells.set j v=cs:=by simpa [hlt] using hk
   subst hk'
   rw [List.getElem?_set] at hy
   split at hy
   ·rename_i e;subst e
    have hy':v=y:=by simpa [(List.getElem?_eq_some_iff.1 hj).1] using hy
    subst hy'
    exact hv _ (q3 i cells hi j u hj)
   ·exact q3 i cells hi t y hy
  ·exact q3 k cs hk t y hy
theorem zku {m:Inj}{w:World}{id g sz:Nat}{cv:Value}(hu:h.used id)(ht:TokC h id g 0 (m id=none))(hv:VR m h w .nils cv):VR m h w (.app id g sz []) cv:=by
 cases hv with
 | nils0 => exact .app0 _ _ _ hu ht
 | nils1 a => exact .app1 _ _ _ _ hu ht
theorem Cvt.adoptM {id sz i j nx:Nat}{c:List (List AV)}{cells:List AV}(s:Nat)(hg:h.get id=some (.mem sz c))(hi:c[i]? = some cells)(hj:cells[j]? = some .nils)(hn:h.next=nx) :
  Cvt e h e ((h.put nx (.tail 0 0)).set id (some (.mem sz (c.set i (cells.set j (.app nx 0 s [])))))):=fun N m w a hr he=>by
 subst hn
 have hf:=z11 hr
 have st:=z3f hr hf
 have hr1:=hr.putv hf
 have hne:id≠h.next:=z3e hf (hr.live _ _ hg)
 have hg1:(h.put h.next (.tail 0 0)).get id=some (.mem sz c):=by simp only [AHeap.put,if_neg hne];exact hg
 obtain ⟨k1,k2⟩:=hr1.retell (c':=c.set i (cells.set j (.app h.next 0 s []))) hg1 (by simp) (RowF.one_cell hi hj rfl fun cv=>zku z2 (z4n (by simp [upd])))
 exact ⟨_,k1,(he.step st).step k2,st.trans k2⟩
theorem Cvt.anewM {id sz i j t g n:Nat}{c:List (List AV)}{cells:List AV}(s:Nat)(ht:h.get t=some (.tail g n))(hg:h.get id=some (.mem sz c))(hi:c[i]? = some cells)(hj:cells[j]? = some .nils) :
  Cvt e h e ((h.set t (some (.tail (g+1) 0))).set id (some (.mem sz (c.set i (cells.set j (.app t (g+1) s [])))))):=fun N m w a hr he=>by
 have st:=zi6 (n':=0) hr ht (Nat.lt_succ_self g)
 have hr1:=hr.anew (n':=0) ht (Nat.lt_succ_self g)
 have hne:id≠t:=fun e=>by subst e;rw [hg] at ht;cases ht
 have hg1:(h.set t (some (.tail (g+1) 0))).get id=some (.mem sz c):=by simp only [AHeap.set,if_neg hne];exact hg
 obtain ⟨k1,k2⟩:=hr1.retell (c':=c.set i (cells.set j (.app t (g+1) s []))) hg1 (by simp) (RowF.one_cell hi hj rfl fun cv=>zku (hr1.live t _ za) (zsj (by simp [upd])))
 exact ⟨_,k1,(he.step st).step k2,st.trans k2⟩
end
end Go.Abs

namespace Go.Abs
open Go

section
variable {P:Program}{N:Nat}{m:Inj}{h:AHeap}{w:World}{e:Env}{a:Act}{nm:Nat}{o:Oper}
theorem zss (hr:HR m h w)(he:ER N m h w e a){t el:TypeId}{i:TypeInfo}{z:Value}{n:Nat}{ps:Array (Nat×Operand)}{xs:List Opd}(hu:P.underlying t=some (.slice el))(hi:P.info? el=some i)(hz:i.zero=some z)
  (hxs:ofL (fun (p:Nat×Operand)=>ofOpd N p.2) ps.toList=some xs) (hbig:n*i.size≤2 ^ 24) (hn:0 < n) (hsz:0 < i.size) (hzs:z.cells.size=i.size) (hidx:ps.toList.map (·.1)=List.range n) (ho:o.op = .buildSlice t n ps)
  {r:Option AV} {f:Eff} (hv:evalI nm (.bsl i.size xs) e h.get=some (r,f)) :
  ∃ (c:List (List AV)) (out:Array Value),r=some (.imm i.size c)∧c.length=n∧out.size=n*i.size∧RowF m h w i.size c (fun k=>out.getD k undef)∧(execOp a.eval o).run P w = .ok (.value (.slice (some ⟨w.heap.size,0,none⟩) n n)) (w.alloc (.cells out el)):=by
 have ofL_map:∀ (l:List (Nat×Operand)) {ys:List Opd},ofL (fun (p:Nat×Operand)=>ofOpd N p.2) l=some ys→ofL (ofOpd N) (l.map (·.2))=some ys:=by
  intro l
  induction l with
  | nil => intro ys hy; simpa [ofL] using hy
  | cons p l ih =>
   intro ys hy
   simp only [ofL] at hy
   split at hy
   ·rename_i y ys' h1 h2
    cases hy
    simp [ofL,h1,ih h2]
   ·cases hy
 simp only [evalI] at hv
 split at hv
 ·rename_i vs g1
  split at hv
  ·rename_i c g2
   cases hv
   obtain ⟨e1,e2⟩:=he.evalL (ofL_map _ hxs) g1
   obtain ⟨c1,c2⟩:=zdb g2
   have hpl:ps.toList.length=n:=by have:=congrArg List.length hidx;simpa using this
   have hvl:vs.length=n:=by simp at e1;simpa [e1] using hpl
   have key:∀ (k:Nat) (v:AV),vs[k]? = some v→∃ p:Nat×Operand,ps.toList[k]? = some p∧VR m h w v (a.eval p.2)∧v.cs.length=i.size∧v.isTup=false∧c[k]? = some v.cs:=by
    intro k v hk
    have hlt:k < ps.toList.length:=by rw [hpl,← hvl];exact (List.getElem?_eq_some_iff.1 hk).1
    refine ⟨ps.toList[k],List.getElem?_eq_getElem hlt,?_,(c2 k v hk).2.1,(c2 k v hk).2.2,(c2 k v hk).1⟩
    have:=e2 k v hk
    simpa [List.getD_eq_getElem?_getD,List.getElem?_eq_getElem hlt,List.getElem?_map] using this
   obtain ⟨out,r1,r2,r3,r4⟩:=ze1 i.size (ps.toList.map fun (p:Nat×Operand)=>(p.1,a.eval p.2)) 0 ((Array.range (n*i.size)).map (z.cells[· % z.cells.size]!))
    (by simp only [List.map_map,List.length_map,hpl];rw [show ((fun x:Nat×Value=>x.1) ∘ fun p:Nat×Operand=>(p.1,a.eval p.2))=(·.1) from rfl,hidx,List.range_eq_range'])
    (fun q hq=>by
     obtain ⟨k,hk,rfl⟩:=List.mem_iff_getElem.1 hq
     simp only [List.length_map] at hk
     have hkv:k < vs.length:=by omega
     obtain ⟨p,hp,hvr,hl,ht,_⟩:=key k vs[k] (List.getElem?_eq_getElem hkv)
     have:=(z1t hvr (z1u ht)).1
     have hp':ps.toList[k]=p:=by simpa [List.getElem?_eq_getElem hk] using hp
     simp only [List.getElem_map,hp']
     omega)
    (by simp [hpl])
   have hne:¬ (n*i.size=0):=by have:=Nat.mul_pos hn hsz;omega
   have hcl:c.length=n:=by omega
   have hmem:∀ x∈c,∃ (k:Nat) (v:AV),vs[k]? = some v∧x=v.cs:=by
    intro x hx
    obtain ⟨k,hk,rfl⟩:=List.mem_iff_getElem.1 hx
    have hkv:k < vs.length:=by omega
    have:=(c2 k _ (List.getElem?_eq_getElem hkv)).1
    exact ⟨k,vs[k],List.getElem?_eq_getElem hkv,by rw [List.getElem?_eq_getElem hk] at this;simpa using this⟩
   refine ⟨c,out,rfl,hcl,by rw [r2];simp,⟨fun x hx => ?_,fun x hx => ?_,fun k cells hk j u hj => ?_⟩,?_⟩
   ·obtain ⟨k,v,hk,rfl⟩:=hmem x hx
    exact (c2 k v hk).2.1
   ·obtain ⟨k,v,hk,rfl⟩:=hmem x hx
    obtain ⟨p,hp,hvr,_,ht,_⟩:=key k v hk
    exact (z1t hvr (z1u ht)).2.1
   ·have hkl:k < vs.length:=by have:=(List.getElem?_eq_some_iff.1 hk).1;omega
    obtain ⟨p,hp,hvr,hl,ht,hck⟩:=key k vs[k] (List.getElem?_eq_getElem hkl)
    rw [hk] at hck
    cases hck
    have hjl:j < i.size:=by rw [← hl];exact (List.getElem?_eq_some_iff.1 hj).1
    have:=r4 k (p.1,a.eval p.2) (by simp [hp]) j hjl
    rw [Nat.zero_add] at this
    show VR m h w u (out.getD (k*i.size+j) undef)
    rw [this]
    exact (z1t hvr (z1u ht)).2.2 j u hj
   ·have hbig':¬ (16777216 < n*i.size):=by simp at hbig;omega
    have r1':=r1
    simp only [execOp,ho,Instr.buildSlice,Sem.run_bind,Sem.run_pure,Result.andThen_ok,run_underlying hu,zt hi,zeroValue,z18 hi,hz]
    simp only [show (2:Nat) ^ 24=16777216 from rfl,gt_iff_lt,hbig',if_false,hne,Sem.run_bind,Sem.run_pure,Result.andThen_ok,z18 hi,hz]
    have hmap:(ps.map fun (x:Nat×Operand)=>(x.1,a.eval x.2)).toList=ps.toList.map fun (p:Nat×Operand)=>(p.1,a.eval p.2):=by simp
    rw [hmap,r1']
    simp [newRow]
  ·cases hv
 ·cases hv

theorem zu9 {sz:Nat}{xs:List Opd}(hc:zb P N o=some (.bsl sz xs)):∃ t n ps el i z,o.op = .buildSlice t n ps∧P.underlying t=some (.slice el)∧P.info? el=some i∧i.zero=some z∧ofL (fun (p:Nat×Operand)=>ofOpd N p.2) ps.toList=some xs∧n*i.size≤2 ^ 24∧0 < n∧0 < i.size∧z.cells.size=i.size∧ps.toList.map (·.1)=List.range n∧sz=i.size:=by
  cases hop:o.op <;> simp only [zb,hop] at hc <;> try (cases hc;done)
  case buildSlice t n ps =>
    split at hc
    · split at hc
      · split at hc
        · cases hc
        · split at hc
          · split at hc
            · rename_i hcond;cases hc;exact ⟨_,_,_,_,_,_,rfl,‹_›,‹_›,‹_›,‹_›,hcond.1,hcond.2.1,hcond.2.2.1,hcond.2.2.2.1,hcond.2.2.2.2,rfl⟩
            · cases hc
          · cases hc
      · cases hc
    · cases hc
  all_goals
    (repeat' split at hc
     all_goals first
       | (cases hc; done)
       | (rw [Option.map_eq_some_iff] at hc; obtain ⟨_, _, h⟩ := hc; cases h; done)
       | contradiction)
end

section
variable {P:Program}{N:Nat}{e e':Env}{h h':AHeap}{l:List CI}{Q:Exit→Env→AHeap→Prop}

theorem FX.of {d:Option Nat}{i:Ins}{g:Option (Nat×Bool)}{r:Option AV}{f:Eff}(hp:i.plain=true)(hg:met e g)
  (hx:∀ (o:Oper),zb P N o=some i→∀ e2,(∀ s∈z16 i,lk s e2=lk s e)→∀ (m:Inj) (w:World) (a:Act),HR m h w→ER N m h w e2 a→OpOK P o a m h w h.next r f):FX P N ⟨d,i,g⟩ e h r (f.on h.next h):=by
 intro ops j o ho hc e2 hs m w a K Q hr he hk
 have hraw:=z5w hc hp
 rcases zx hc with ⟨hb1,hb2⟩ | ⟨hd,hdst,_,hgd⟩
 ·have hb:i = .bad:=hb1
  subst hb;cases hp
 ·obtain ⟨w1,w2⟩:=zl he hgd
  have hi:∀ s∈z16 i,lk s e2=lk s e:=fun s h=>hs s (by unfold zk;split <;> simp [h])
  have hw:Region.wanted o (yielded ops a.tmps)=true:=by
   cases g with
   | none => exact w1 rfl
   | some sb =>
    obtain ⟨s,b⟩:=sb
    have hl:lk s e2=some (.bool b):=(hs s (by simp [zk])).trans hg
    rw [w2 s b b rfl hl];simp
  simp only [wpOp,ho]
  rw [if_pos hw]
  left
  obtain ⟨m',w',hr',st,hres⟩:=hx o hraw e2 hi m w a hr he
  have hd':d=o.dst:=hd
  unfold Oper.wp
  cases r with
  | some v =>
   obtain ⟨cv,hrun,hv⟩:=hres
   rw [hrun,Oper.upon_value]
   refine hk m' w' _ hr' ?_ st
   show ER N m' _ w' (putR d (some v) e2) _
   rw [hd']
   exact (he.step st).putR hdst hv
  | none =>
   rw [hres,Oper.upon_skip]
   refine hk m' w' _ hr' ?_ st
   show ER N m' _ w' (putR d none e2) _
   rw [hd']
   exact (he.step st).skipR _ _
theorem FX.bslM {d:Option Nat}{sz n:Nat}{xs:List Opd}{g:Option (Nat×Bool)}{vs:List AV}{c:List (List AV)}(hv:evL e xs=some vs)(hc:z2y sz vs=some c)(hl:c.length=n)(hg:met e g):FX P N ⟨d,.bsl sz xs,g⟩ e h (some (.ref h.next 0 n)) (h.put h.next (.mem sz c)):=by
 refine FX.of (f := .new (.mem sz c)) rfl hg fun o ho e2 hs m w a hr he => ?_
 obtain ⟨t,n',ps,el,i,z,hop,hu,hi,hz,hxs,p1,p2,p3,p4,p5,rfl⟩:=zu9 ho
 have hv2:evL e2 xs=some vs:=(z25 fun s h=>hs s (by simp [z16,h])).trans hv
 have hev:evalI h.next (.bsl i.size xs) e2 h.get=some (some (.imm i.size c),.none):=by simp only [evalI,hv2,hc]
 obtain ⟨c',out,q1,q2,q3,q4,q5⟩:=zss hr he hu hi hz hxs p1 p2 p3 p4 p5 hop hev
 cases q1
 have hn:n=n':=by omega
 subst hn
 have hf:=z11 hr
 obtain ⟨r1,r2⟩:=z4l (T:=el) (cc:=out) hr hf (by rw [q2,q3];exact Nat.le_refl _) q4
 refine ⟨_,_,r1,r2,_,q5,?_⟩
 have:=zha (m:=m) (h:=h) (w:=w) (nm:=h.next) (sz:=i.size) (off:=0) (len:=n) (cap:=n) (c:=c) (cc:=out) (T:=el) (by omega) (Nat.le_refl _) (by rw [q3];simp)
 simp only [Nat.zero_mul] at this
 exact this

theorem zpi {o:Oper}{sz bytes:Nat}{x y:Opd}(hc:zb P N o=some (.app sz bytes x y)):∃ c s n t el i z,o.op = .call c∧c.callee = .builtin .append∧c.args.toList=[s,n]∧c.argTypes.toList=[t,t]∧P.underlying t=some (.slice el) ∧
    ofOpd N s=some x∧ofOpd N n=some y∧P.info? el=some i∧i.zero=some z∧0 < i.size∧0 < i.bytes∧z.cells.size=i.size∧sz=i.size∧bytes=i.bytes:=by
  cases hop:o.op <;> simp only [zb,hop] at hc <;> try (cases hc;done)
  case call c =>
    repeat' split at hc
    all_goals first
      | (cases hc; done)
      | (rename_i hcond; cases hc; obtain ⟨q1, q2, q3, q4, q5⟩ := hcond; subst q1; subst q2; exact ⟨_, _, _, _, _, _, _, rfl, ‹_›, ‹_›, ‹_›, ‹_›, ‹_›, ‹_›, ‹_›, ‹_›, q3, q4, q5, rfl, rfl⟩)
      | contradiction
  all_goals
    (repeat' split at hc
     all_goals first
       | (cases hc; done)
       | (rw [Option.map_eq_some_iff] at hc; obtain ⟨_, _, h⟩ := hc; cases h; done)
       | contradiction)
theorem znf {o:Oper}{sz:Nat}{x mx:Opd}{lo hi:Option Opd}(hc:z7 P N o=some (.slc3 sz x lo hi mx)):∃ t xo lo' hi' mo el i,o.op = .slice t xo lo' hi' (some mo)∧P.underlying t=some (.slice el)∧P.info? el=some i∧ofOpd N xo=some x∧ofOpd N mo=some mx∧OOpd N lo' lo∧OOpd N hi' hi∧sz=i.size:=by
  cases hop:o.op <;> simp only [z7,hop] at hc <;> try (cases hc;done)
  case slice t xo lo' hi' mo =>
    cases mo with
    | none =>
      repeat' split at hc
      all_goals first
        | (cases hc; done)
        | contradiction
        | exact absurd ‹Op.slice _ _ _ _ none = Op.slice _ _ _ _ (some _)› (by simp)
    | some mo =>
      simp only at hc
      split at hc
      · split at hc
        · cases lo' <;> cases hi' <;> simp only at hc
          · cases hc;exact ⟨_,_,_,_,_,_,_,rfl,‹_›,‹_›,‹_›,‹_›,trivial,trivial,rfl⟩
          · rw [Option.map_eq_some_iff] at hc;obtain ⟨_,h1,h2⟩:=hc;cases h2;exact ⟨_,_,_,_,_,_,_,rfl,‹_›,‹_›,‹_›,‹_›,trivial,h1,rfl⟩
          · rw [Option.map_eq_some_iff] at hc;obtain ⟨_,h1,h2⟩:=hc;cases h2;exact ⟨_,_,_,_,_,_,_,rfl,‹_›,‹_›,‹_›,‹_›,h1,trivial,rfl⟩
          · split at hc
            · rename_i h1 h2;cases hc;exact ⟨_,_,_,_,_,_,_,rfl,‹_›,‹_›,‹_›,‹_›,h1,h2,rfl⟩
            · cases hc
        · cases hc
      · cases hc
  all_goals
    (repeat' split at hc
     all_goals first
       | (cases hc; done)
       | (rw [Option.map_eq_some_iff] at hc; obtain ⟨_, _, h⟩ := hc; cases h; done)
       | contradiction)
theorem XOK.slcNN {sz:Nat}{x mx y:Opd}{k k':IntKind}{id l n:Nat}{a b:Int}(hx:ev e x=some (.ref id 0 l))(hh:ev e y=some (.int k a))(hm:ev e mx=some (.int k' b))(ha:a=n)(hb:b=n)(hn:n≤l)(hg:∃ c,h.get id=some (.mem sz c)):XOK P N (.slc3 sz x none (some y) mx) e h (some (.ref id 0 n)) .none:=by
 subst ha hb
 intro o hc e2 hs m w act hr he
 obtain ⟨t,xo,lo',hi',mo,el,i,hop,hu1,hi,h1,h2,h3,h4,rfl⟩:=znf hc
 cases lo' with
 | some _ => exact h3.elim
 | none =>
  cases hi' with
  | none => exact h4.elim
  | some ho =>
   have hx2:=(z5 fun s h=>hs s (by simp [z10,h])).trans hx
   have hh2:=(z5 fun s h=>hs s (by simp [z10,z4y,h])).trans hh
   have hm2:=(z5 fun s h=>hs s (by simp [z10,h])).trans hm
   have hv:=he.eval h1 hx2
   have b1:=zm (he.eval h4 hh2)
   have b2:=zm (he.eval h2 hm2)
   generalize hcx:act.eval xo=cx at hv
   cases hv with
   | ref _ _ _ cap ad hu hcap ha =>
    obtain ⟨c,hg⟩:=hg
    obtain ⟨b',hb',hle,had,cc',T',hcc,hsz⟩:=ha _ _ hg
    have hb:(Instr.sliceBounds true l cap none (some (.int k (n:Int))) (some (.int k' (n:Int)))).run P w = .ok (0,n,n) w:=by
     have q1:(n:Int)≤(cap:Int):=by omega
     have q2:n≤cap:=by omega
     simp [Instr.sliceBounds,Instr.sliceBound,asIntOf,q2]
    have hvv:VR m h w (.ref id 0 n) (.slice (some ad) n n) := .ref id 0 n n ad hu (Nat.le_refl _) fun sz' c' hg'=>by
     obtain ⟨b2,hb2,hle2,had2,cc2,T2,hcc2,hsz2⟩:=ha _ _ hg'
     refine ⟨b2,hb2,by omega,?_,cc2,T2,hcc2,?_⟩
     ·rcases had2 with h5 | h5
      ·left;omega
      ·right;exact h5
     ·have:(0+n)*sz'≤(0+cap)*sz':=Nat.mul_le_mul_right _ (by omega)
      omega
    refine OpOK.pure hr (cv := .slice (some ad) n n) ?_ hvv
    have hadd:ad.add (0*i.size)=ad:=by simp [Addr.add]
    have hrun:(Instr.slice t (.slice (some ad) l cap) none (some (.int k (n:Int))) (some (.int k' (n:Int)))).run P w = .ok (.slice (some ad) n n) w:=by
     simp only [Instr.slice,Sem.run_bind,run_underlying hu1,Result.andThen_ok,hb,zt hi,Sem.run_pure,Option.map_some,hadd,Nat.sub_zero,ite_self]
    have hrun2:(Instr.sliceAt t (.slice (some ad) l cap) none (some (.int k (n:Int))) (some (.int k' (n:Int)))).run P w = .ok (.slice (some ad) n n) w:=by
     simp only [Instr.sliceAt,Sem.run_bind,run_underlying hu1,Result.andThen_ok,hrun]
    simp only [execOp,hop,hcx,b1,b2,Option.map_some,Option.map_none,Sem.run_bind,hrun2,Result.andThen_ok,Sem.run_pure]

theorem zqz {o:Oper}{f:Nat}{xs:List Opd}(hc:z7 P N o=some (.callx f xs)):∃ c fn,o.op = .call c∧c.callee = .value (.func f)∧P.funcs[f]? = some fn∧fn.body=none∧ofL (ofOpd N) c.args.toList=some xs:=by
 obtain ⟨c,hop⟩:=z8h hc trivial
 simp only [z7,hop] at hc
 repeat' split at hc
 all_goals first
  | (cases hc; exact ⟨_, _, hop, ‹_›, ‹_›, by simpa using ‹Option.isNone _ = true›, ‹_›⟩)
  | (cases hc; done)
theorem zfk:∀ (n t:Nat) (acc:Array Value),(∀ k,k < acc.size→∃ q:Int,acc.getD k undef = .int .u8 q)→∀ k,k < (Extern.BytealgMakeNoZero.digits n t acc).size→∃ q:Int,(Extern.BytealgMakeNoZero.digits n t acc).getD k undef = .int .u8 q
 | 0, _, acc, ha, k, hk => ha k hk
 | n + 1, t, acc, ha, k, hk => by
  rw [Extern.BytealgMakeNoZero.digits] at hk ⊢
  refine zfk n _ _ (fun j hj => ?_) k hk
  by_cases hlt:j < acc.size
  ·obtain ⟨q,hq⟩:=ha j hlt
   exact ⟨q,by simpa [Array.getD_eq_getD_getElem?,Array.getElem?_push_lt hlt,hlt] using hq⟩
  ·simp only [Array.size_push] at hj
   obtain rfl:j=acc.size:=by omega
   exact ⟨Int.ofNat (t % 256),by simp [Array.getD_eq_getD_getElem?]⟩
theorem FQ.noZero {d : Option Nat} {f n : Nat} {x : Opd} {g : Option (Nat × Bool)} {a : Int} {fn : Func} {t el : TypeId} (hf : P.funcs[f]? = some fn) (hnm : fn.name = "internal/bytealg.MakeNoZero") (hx1 : Extern.findNext fn = none) (hx2 : Extern.find fn = some (Extern.BytealgMakeNoZero.makeNoZero fn.params fn.resultTypes)) (hres : fn.resultTypes = #[t]) (ht : P.underlying t = some (.slice el))
  (hx:ev e x=some (.int .i64 a)) (ha:a=n) (hn:n≤1000000) (hg:met e g) :
  FQ P N ⟨d,.raw (.callx f [x]),g⟩ e h (fun r h'=>∃ q:Nat→Int,r=some (.ref h.next 0 n)∧h'=h.put h.next (.mem 1 ((List.range n).map fun i=>[.int .u8 (q i)]))):=by
 subst ha
 refine FQ.of (by simp) hg fun ops o hc m w act hr he => ?_
 obtain ⟨c,fn',hop,hcal,hfn,hbody,hxs⟩:=zqz (z71 hc rfl)
 rw [hf] at hfn;cases hfn
 obtain ⟨hl1,hl2⟩:=he.evalL hxs (show evL e [x]=some [.int .i64 n] by simp [evL,hx])
 have e1:∃ y,c.args.toList=[y]:=by
  cases hcl:c.args.toList with
  | nil => rw [hcl] at hl1; simp at hl1
  | cons y ys =>
   cases ys with
   | nil => exact ⟨y, rfl⟩
   | cons z zs => rw [hcl] at hl1; simp at hl1
 obtain ⟨y,hy⟩:=e1
 have ha':c.args=#[y]:=by rw [← Array.toArray_toList (xs:=c.args),hy]
 have e2:=zm (hl2 0 _ rfl)
 rw [hy] at e2
 simp at e2
 have hrun:∃ cs:Array Value,(Extern.BytealgMakeNoZero.makeNoZero fn.params #[t] #[.int .i64 n]).run P w = .ok (.slice (some ⟨w.heap.size,0,none⟩) n cs.size) (w.drew.drew.alloc (.cells cs el))∧n≤cs.size∧∀ k,k < cs.size→∃ q:Int,cs.getD k undef = .int .u8 q:=by
  have hdef:Extern.BytealgMakeNoZero.makeNoZero fn.params #[t] #[.int .i64 n] =
    (do
     let .slice elem ← underlying t | stuck "bytealg.MakeNoZero: slice type expected"
     if (n : Int) < 0 || (n : Int) > 2 ^ 48 then runtimePanic (.error "makeslice: len out of range")
     let cap ← choose (.appendCap (n:Int).toNat 0 elem)
     askRoom cap
     let bytes ← choose (.extern "internal/bytealg.MakeNoZero.bytes" 0)
     let a ← newRow elem (Extern.BytealgMakeNoZero.digits cap bytes #[])
     pure (.slice (some a) (n:Int).toNat cap)):=rfl
  refine ⟨Extern.BytealgMakeNoZero.digits (grownCap w n 0 el) ((Question.extern "internal/bytealg.MakeNoZero.bytes" 0).cut (w.tape (w.drawn + 1) (.extern "internal/bytealg.MakeNoZero.bytes" 0))) #[], ?_, ?_, zfk _ _ _ (fun k hk => by simp at hk)⟩
  ·rw [hdef]
   have h1:¬ (n:Int) < 0:=by omega
   have h2:¬ (281474976710656:Int) < (n:Int):=by omega
   simp [run_underlying ht,h1,h2,Question.forced,newRow,Lib.size_digits,grownCap]
  ·rw [Lib.size_digits]
   simpa using grownCap_ge w n 0 el
 obtain ⟨cs,hrun,p1,p2⟩:=hrun
 let q:Nat→Int:=fun k=>if hk:k < cs.size then Classical.choose (p2 k hk) else 0
 have hq:∀ k,k < cs.size→cs.getD k undef = .int .u8 (q k):=fun k hk=>by
  show _=Value.int .u8 (dite _ _ _)
  rw [dif_pos hk]
  exact Classical.choose_spec (p2 k hk)
 have hr2:=hr.drew.drew
 have hf2:=z11 hr
 obtain ⟨r1,r2⟩:=z4l (w:=w.drew.drew) (T:=el) (cc:=cs) (sz:=1) (c:=(List.range n).map fun i=>[AV.int .u8 (q i)]) hr2 hf2 (by simpa using p1) ⟨fun x hx=>by simp at hx;obtain ⟨_,_,rfl⟩:=hx;rfl,fun x hx v hv=>by simp at hx;obtain ⟨_,_,rfl⟩:=hx;simp at hv;subst hv;rfl,fun i cells hi j v hj=>by
  have hin:i < n:=by simpa using (List.getElem?_eq_some_iff.1 hi).1
  rw [List.getElem?_map,List.getElem?_range hin] at hi
  cases hi
  rcases j with _ | j
  ·cases hj
   show VR _ _ _ _ (cs.getD (i*1+0) undef)
   rw [Nat.mul_one,Nat.add_zero,hq i (by omega)]
   exact .int _ _
  ·simp at hj⟩
 have hbn:fn.body.isNone=true:=by rw [hbody];rfl
 have hnn : (fn.name == "runtime.NumGoroutine") = false := by rw [hnm]; decide
 refine ⟨_,.new (.mem 1 ((List.range n).map fun i=>[AV.int .u8 (q i)])),⟨q,rfl,rfl⟩,_,_,r1,step_drew.trans (step_drew.trans r2),.slice (some ⟨w.heap.size,0,none⟩) n cs.size,?_,?_⟩
 ·have hcf:(callFunc f #[.int .i64 n]).run P w = .ok (.value (.slice (some ⟨w.heap.size,0,none⟩) n cs.size)) (w.drew.drew.alloc (.cells cs el)):=by
   rw [run_callFunc_extern hf hnn hbn hx1 hx2,hres,hrun];rfl
  have hev:c.args.map act.eval=#[.int .i64 (n:Int)]:=by rw [ha'];simp [e2]
  simp [execOp,hop,resolve,hcal,hev,Act.eval,Deferred.ofValue,invoke,hcf]
 ·have:=zha (m:=m) (h:=h) (w:=w.drew.drew) (nm:=h.next) (sz:=1) (off:=0) (len:=n) (cap:=cs.size) (c:=(List.range n).map fun i=>[AV.int .u8 (q i)]) (cc:=cs) (T:=el) (by simp) p1 (by simp)
  simp only [Nat.zero_mul] at this
  exact this
end
end Go.Abs

namespace Go.Abs
open Go

theorem Clo.mono {u u':Nat→Prop}(hu:∀ id,u id→u' id){v:AV}(hc:Clo u v):Clo u' v:=by
 induction hc with
 | bool b => exact .bool b
 | int k n => exact .int k n
 | str s => exact .str s
 | nilp => exact .nilp
 | ptr id i off h => exact .ptr _ _ _ (hu _ h)
 | iptr sz c i off _ ih => exact .iptr _ _ _ _ ih
 | nils => exact .nils
 | imm sz c _ ih => exact .imm _ _ ih
 | app id g sz c h _ ih => exact .app _ _ _ _ (hu _ h) ih
 | ref id off len h => exact .ref _ _ _ (hu _ h)
 | nilm => exact .nilm
 | map id h => exact .map _ (hu _ h)
 | nilf => exact .nilf
 | func fn vs us _ _ ih1 ih2 => exact .func _ _ _ ih1 ih2
 | nili => exact .nili
 | iface t v _ ih => exact .iface _ _ ih
 | agg vs _ ih => exact .agg _ ih
 | tup vs _ ih => exact .tup _ ih
def CloObj (u:Nat→Prop):AObj→Prop
 | .mem _ c => ∀ x ∈ c, ∀ v ∈ x, Clo u v
 | .tail _ _ => True
 | .map es => ∀ kv ∈ es, Clo u kv.1 ∧ Clo u kv.2
 | .loop _ _ _ es _ _ _ _ _ => ∀ sv ∈ es, Clo u sv.2
 | .dfr _ _ => True
theorem CloObj.mono {u u':Nat→Prop}(hu:∀ id,u id→u' id){x:AObj}(hc:CloObj u x):CloObj u' x:=by
 cases x with
 | mem sz c => exact fun x hx v hv => (hc x hx v hv).mono hu
 | tail g n => trivial
 | map es => exact fun kv h => ⟨(hc kv h).1.mono hu, (hc kv h).2.mono hu⟩
 | loop => exact fun sv h => (hc sv h).mono hu
 | dfr => trivial

def Nm (h h':AHeap)(id:Nat):Prop:=h'.used id∨∃ x,h.get id=some x
structure Ext (h h':AHeap):Prop where
 next:h.next≤h'.next
 gap:∀ id,h'.gap id=true→h.gap id=true
 obj:∀ id x,h'.get id=some x→h.get id=some x∨(Nm h h' id∧CloObj (Nm h h') x)
section
variable {P:Program}{N f:Nat}{cc:CC}{rcs:List RC}{vs:List AV}{h h' h1:AHeap}{e e':Env}{Q:Exit→Env→AHeap→Prop}{l:List CI}

theorem Ext.refl:Ext h h:=⟨Nat.le_refl _,fun _ h=>h,fun _ _ h => .inl h⟩
theorem Ext.used (hx:Ext h h'){id:Nat}(hu:h.used id):h'.used id:=by
 refine ⟨Nat.lt_of_lt_of_le hu.1 hx.next,?_⟩
 cases hg:h'.gap id with
 | false => rfl
 | true => have := hx.gap id hg; rw [hu.2] at this; cases this
theorem Ext.set (hx:Ext h h'){id:Nat}{x:AObj}(hn:Nm h h' id)(hc:CloObj (Nm h h') x):Ext h (h'.set id (some x)):=by
 refine ⟨hx.next,hx.gap,fun j y hg => ?_⟩
 simp only [AHeap.set] at hg
 split at hg
 ·rename_i e;subst e;cases hg;exact .inr ⟨hn,hc⟩
 ·exact hx.obj j y hg
theorem Nm.put {nm id:Nat}{x:AObj}(hn:Nm h h' id):Nm h (h'.put nm x) id:=by
 rcases hn with hn | hn
 ·exact .inl (zw hn)
 ·exact .inr hn
theorem Ext.put (hx:Ext h h'){nm:Nat}{x:AObj}(hc:CloObj (Nm h (h'.put nm x)) x):Ext h (h'.put nm x):=by
 refine ⟨?_,fun id hg => ?_,fun j y hg => ?_⟩
 ·have:=hx.next;simp only [AHeap.put];split <;> omega
 ·simp only [AHeap.put] at hg
  split at hg
  ·cases hg
  ·exact hx.gap id hg
 ·simp only [AHeap.put] at hg
  split at hg
  ·rename_i e;subst e;cases hg;exact .inr ⟨.inl z2,hc⟩
  ·rcases hx.obj j y hg with h5 | ⟨h5,h6⟩
   ·exact .inl h5
   ·exact .inr ⟨h5.put,h6.mono fun _ h=>h.put⟩
theorem Nm.old {id:Nat}{x:AObj}(hg:h.get id=some x):Nm h h' id := .inr ⟨x,hg⟩

structure EffQ (h':AHeap)(rcs:List RC)(r:AV)(ex:Exit)(e:Env)(h1:AHeap):Prop where
 ex:ex = .ret∨ex = .normal
 keeps:Keeps h' h1
 res:∃ rs,resA h1.get e rcs=some rs∧Fz h' h1 (fin rs) r
theorem EffQ.fin {x:Exit}{rs:List AV}{r:AV}(hex:x = .ret∨x = .normal)(hk:Keeps h' h1)(hr:resA h1.get e rcs=some rs)(hf:Fz h' h1 (Go.Abs.fin rs) r):EffQ h' rcs r x e h1:=⟨hex,hk,rs,hr,hf⟩
theorem AC.eff {R:AV→AHeap→Prop}(hfn:FnIs P f N cc rcs)(hn:vs.length≤N)
  (hw:AW P N cc (fun ex e h1=>∃ r h',Ext h h'∧EffQ h' rcs r ex e h1∧R r h') (argE 0 vs) h):AC P f vs h R:=by
 have hac:AC P f vs h (fun r1 h1=>∃ r h',Ext h h'∧Keeps h' h1∧Fz h' h1 r1 r∧R r h') :=
  AC.intro hfn hn (hw.mono fun ex e h1 ⟨r,h',hx,⟨q1,q2,rs,q3,q4⟩,q5⟩=>⟨q1,rs,q3,r,h',hx,q2,q4,q5⟩)
 intro m w cargs hr hl hv
 refine (hac m w cargs hr hl hv).mono fun ex w' ⟨v,m',r1,h1,e1,g1,g2,g3,r,h',hx,hk,hz,hR⟩ => ?_
 have nm:∀ id,Nm h h' id→h'.used id:=fun id hn=>by
  rcases hn with hn | ⟨x,hn⟩
  ·exact hn
  ·exact hx.used (hr.live id x hn)
 have live:∀ id x,h'.get id=some x→h'.used id:=fun id x hg=>by
  rcases hx.obj id x hg with h5 | ⟨h5,_⟩
  ·exact hx.used (hr.live id x h5)
  ·exact nm id h5
 have hs:∀ id x,h'.get id=some x→h1.get id=some x:=fun id x hg=>(hk.2 id (live id x hg)).trans hg
 have clo:∀ id x,h'.get id=some x→CloObj h'.used x:=fun id x hg=>by
  rcases hx.obj id x hg with h5 | ⟨_,h5⟩
  ·refine CloObj.mono (u:=h.used) (fun id=>hx.used) ?_
   have ho:=hr.obj id x h5
   cases x with
   | mem sz c =>
    obtain ⟨_,_,_,_,_,_,p4⟩:=ho
    exact zcl fun i cells hi j v hj=>(p4.2.2 i cells hi j v hj).clo
   | tail g n => trivial
   | map es =>
    obtain ⟨_,_,_,_,_,_,p4⟩:=ho
    intro kv hkv
    obtain ⟨i,hi,rfl⟩:=List.mem_iff_getElem.1 hkv
    have:=p4 i _ _ (List.getElem?_eq_getElem hi)
    exact ⟨this.1.clo,this.2.clo⟩
   | loop =>
    obtain ⟨_,_,_,_,p4⟩:=ho
    exact fun sv hsv=>(p4 sv.1 sv.2 hsv).clo
   | dfr => trivial
  ·exact h5.mono nm
 have hr':HR m' h' w':={
  gapl:=fun id hg=>Nat.lt_of_lt_of_le (hr.gapl id (hx.gap id hg)) hx.next
  live:=live
  inj:=fun i j x y b s t hi hj=>g1.inj i j x y b s t (hs i x hi) (hs j y hj)
  obj:=fun id x hg=>by
   have ho:=g1.obj id x (hs id x hg)
   have hcl:=clo id x hg
   cases x with
   | mem sz c =>
    obtain ⟨b,cc,T,q1,q2,q3,q4⟩:=ho
    exact ⟨b,cc,T,q1,q2,q3,q4.1,q4.2.1,fun i cells hi j v hj=>(q4.2.2 i cells hi j v hj).restrict hs (hcl _ (List.mem_of_getElem? hi) _ (List.mem_of_getElem? hj))⟩
   | tail _ _ => exact ho
   | map es =>
    obtain ⟨b,ens,ck,q1,q2,q3,q4⟩:=ho
    exact ⟨b,ens,ck,q1,q2,q3,fun i k v hi=>⟨(q4 i k v hi).1.restrict hs (hcl _ (List.mem_of_getElem? hi)).1,(q4 i k v hi).2.restrict hs (hcl _ (List.mem_of_getElem? hi)).2⟩⟩
   | loop =>
    obtain ⟨q1,T,q2,q3,q4⟩:=ho
    exact ⟨q1,T,q2,q3,fun s v hi=>(q4 s v hi).restrict hs (hcl _ hi)⟩
   | dfr => exact ho }
 have st:Step m h w m' h' w':={
  os:=g3.os
  tape:=g3.tape
  output:=g3.output
  size:=g3.size
  kind:=fun b cc T fz hb hf=>g3.kind b cc T fz hb fun hf1=>hf fun id t x hg=>hf1 id t x (hs id x hg)
  free:=fun b hb hf=>⟨(g3.free b hb hf).1,fun id t x hg=>(g3.free b hb hf).2 id t x (hs id x hg)⟩
  cell:=fun b o v hc hn=>⟨(g3.cell b o v hc hn).1,fun ho=>(g3.cell b o v hc hn).2 (zh1 hs ho)⟩
  used:=fun _ hu=>hx.used hu
  live:=fun id x hu hg=>g3.live id x hu (hs id x hg) }
 exact ⟨v,m',r,h',e1,hr',hz.vr g1 hs live g2,st,hR⟩
theorem AE.effQ {r:AV}(hfn:FnIs P f N cc rcs)(hn:vs.length≤N)(hx:Ext h h')(hw:AW P N cc (EffQ h' rcs r) (argE 0 vs) h):AE P f vs h r h' :=
 AC.eff hfn hn (hw.mono fun _ _ _ hq=>⟨r,h',hx,hq,rfl,rfl⟩)

theorem zea {a b:AHeap}(h1:∀ id,a.get id=b.get id)(h2:a.next=b.next)(h3:∀ id,a.gap id=b.gap id):a=b:=by
 cases a;cases b
 simp only [AHeap.mk.injEq] at *
 exact ⟨funext h1,h2,funext h3⟩
theorem zng {id:Nat}{x y:Option AObj}:(h.set id x).set id y=h.set id y:=by
 refine zea (fun j => ?_) rfl fun _=>rfl
 simp only [AHeap.set];split <;> rfl
end
end Go.Abs

namespace Go.Abs
open Go

theorem zeb {f g:Nat→List AV}{x:List AV}{m i:Nat}(hx:x=f i):((List.range m).map (fun k=>if k < i then f k else g k)).set i x=(List.range m).map (fun k=>if k < i+1 then f k else g k):=by
 refine List.ext_getElem (by simp) fun j h1 h2 => ?_
 rw [List.getElem_set]
 simp only [List.getElem_map,List.getElem_range]
 split
 ·rename_i e;subst e;rw [if_pos (by omega)];exact hx
 ·by_cases h3:j < i
  ·rw [if_pos h3,if_pos (by omega)]
  ·rw [if_neg h3,if_neg (by omega)]
theorem zbf {f g:Nat→List AV}{m:Nat}{x:List AV}(hg:∀ k,k < m→g k=x):List.replicate m x=(List.range m).map (fun k=>if k < 0 then f k else g k):=by
 refine List.ext_getElem (by simp) fun j h1 h2 => ?_
 simp at h1
 simp [hg j h1]
theorem zec {f g:Nat→List AV}{m i:Nat}(hi:m≤i):(List.range m).map (fun k=>if k < i then f k else g k)=(List.range m).map f:=by
 refine List.map_congr_left fun k hk => ?_
 simp at hk
 rw [if_pos (by omega)]
theorem z32 {h:AHeap}{n nm:Nat}{x:AObj}(hn:n≤h.next):n≤(h.put nm x).next:=by simp only [AHeap.put];split <;> omega
theorem z33 {h:AHeap}{n nm:Nat}{x:Option AObj}(hn:n≤h.next):n≤(h.set nm x).next:=hn
class MO (P:Program):Prop where
 mo:P.follows .mixedOrders=true
inductive BP:Bool→Prop→Prop→Prop
 | lt (a b : Int) : BP (decide (a < b)) (a < b) (b ≤ a)
 | le (a b : Int) : BP (decide (a ≤ b)) (a ≤ b) (b < a)
 | gt (a b : Int) : BP (decide (a > b)) (b < a) (a ≤ b)
 | ge (a b : Int) : BP (decide (a ≥ b)) (b ≤ a) (a < b)
 | eq (a b : Int) : BP (a == b) (a = b) (a ≠ b)
 | ne (a b : Int) : BP (a != b) (a ≠ b) (a = b)
 | dec (p : Prop) [Decidable p] : BP (decide p) p (¬ p)
 | eqL (a b : List UInt8) : BP (a == b) (a = b) (a ≠ b)
 | neL (a b : List UInt8) : BP (a != b) (a ≠ b) (a = b)
 | not (t : Bool) (p q : Prop) (h : BP t p q) : BP (!t) q p
 | var (t : Bool) : BP t (t = true) (t = false)
theorem BP.both {t:Bool}{p q:Prop}(h:BP t p q):(t=true→p)∧(t=false→q):=by
 induction h with
 | lt a b => simp
 | le a b => simp
 | gt a b => simp
 | ge a b => simp
 | eq a b => simp
 | ne a b => simp
 | dec p => simp
 | eqL a b => simp
 | neL a b => simp
 | not t p q _ ih => cases t <;> simp_all
 | var t => exact ⟨id, id⟩

def wsI:Ins→Bool
 | .alloc _ | .box _ _ | .store _ _ _ | .mksl _ _ _ _ _ | .app _ _ _ _ | .cpy _ _ _ => true
 | .raw x => match x with
  | .look _ _ _ _ _ | .mlen _ | .caps _ | .slc3 _ _ _ _ _ | .mkif _ _ | .s2b _ | .asrt _ _ _ _ => false
  | _ => true
 | _ => false
def wsL (l:List CI)(xs:List Nat):List Nat:=(List.range l.length).filter fun i=>wsI (l.getD i default).i || xs.contains i
def PhiW (n:Nat)(W:List Nat)(h0 h2:AHeap):Prop:=∀ id,id < n→id ∉ W→h2.get id=h0.get id

section
variable {P:Program}{N:Nat}{e e':Env}{h h':AHeap}{Q:Exit→Env→AHeap→Prop}{l:List CI}{Φ:AHeap→Prop}{ws fs:List Nat}{K:Env→AHeap→Prop}{j:Nat}

theorem zi {nm g n n':Nat}(hn:n=n'):(h.put nm (.tail g n)).get nm=some (.tail g n'):=by subst hn;exact get_put_same
theorem PhiW.refl {n:Nat}{W:List Nat}:PhiW n W h h:=fun _ _ _=>rfl
theorem PhiW.put {n nm:Nat}{W:List Nat}{h0:AHeap}{x:AObj}(hn:n≤nm)(hp:PhiW n W h0 h):PhiW n W h0 (h.put nm x):=fun id h1 h2=>by
 rw [zf8 (by omega)];exact hp id h1 h2
theorem PhiW.setW {n i:Nat}{W:List Nat}{h0:AHeap}{x:Option AObj}(hi:i∈W)(hp:PhiW n W h0 h):PhiW n W h0 (h.set i x):=fun id h1 h2=>by
 have hne:id≠i:=fun e=>h2 (by rw [e];exact hi)
 rw [z98 hne];exact hp id h1 h2
theorem PhiW.setN {n i:Nat}{W:List Nat}{h0:AHeap}{x:Option AObj}(hi:n≤i)(hp:PhiW n W h0 h):PhiW n W h0 (h.set i x):=fun id h1 h2=>by
 rw [z98 (by omega)];exact hp id h1 h2

structure WW (P:Program)(N:Nat)(c:CC)(Q:Exit→Env→AHeap→Prop)(e:Env)(h:AHeap):Prop where
 out:AW P N c Q e h
structure WL (P:Program)(N:Nat)(l:List CI)(Q:Exit→Env→AHeap→Prop)(e:Env)(h:AHeap):Prop where
 out:AL P N l Q e h
theorem WW.mono {c:CC}{Q':Exit→Env→AHeap→Prop}(hw:WW P N c Q e h)(hq:∀ ex e h,Q ex e h→Q' ex e h):WW P N c Q' e h:=⟨hw.out.mono hq⟩
theorem WW.seq {x y:CC}(hw:WW P N x (thenQ (fun e h=>WW P N y Q e h) Q) e h):WW P N (.seq x y) Q e h :=
 ⟨AW.seq (hw.out.mono fun ex e h hq=>by cases ex <;> first | exact hq.out | exact hq)⟩
theorem WW.skip (hq:Q .normal e h):WW P N .skip Q e h:=⟨AW.skip hq⟩
theorem WW.exit {id:Nat}(hq:Q (.exit id) e h):WW P N (.exit id) Q e h:=⟨AW.exit hq⟩
theorem WW.ret (hq:Q .ret e h):WW P N .ret Q e h:=⟨AW.ret hq⟩
theorem WW.block {id:Nat}{x:CC}(hw:WW P N x (zf6 id Q) e h):WW P N (.block id x) Q e h:=⟨AW.block hw.out⟩
theorem WW.reg {l:List CI}(hw:WL P N l Q e h):WW P N (.reg l) Q e h:=⟨AW.reg hw.out⟩
theorem WW.condT {c:Opd}{x y:CC}(hc:ev e c=some (.bool true))(hw:WW P N x Q e h):WW P N (.cond c x y) Q e h:=⟨AW.condT hc hw.out⟩
theorem WW.condF {c:Opd}{x y:CC}(hc:ev e c=some (.bool false))(hw:WW P N y Q e h):WW P N (.cond c x y) Q e h:=⟨AW.condF hc hw.out⟩
theorem WW.ifB {c:Opd}{x y:CC}{t:Bool}{p q:Prop}(hc:ev e c=some (.bool t))(h1:p→WW P N x Q e h)(h2:q→WW P N y Q e h)
  (hb:BP t p q:=by first | exact BP.lt _ _ | exact BP.le _ _ | exact BP.gt _ _ | exact BP.ge _ _ | exact BP.eq _ _ | exact BP.ne _ _ | exact BP.eqL _ _ | exact BP.neL _ _ | exact BP.dec _ | exact BP.not _ _ _ (BP.lt _ _) | exact BP.not _ _ _ (BP.eq _ _) | exact BP.not _ _ _ (BP.eqL _ _) | exact BP.not _ _ _ (BP.dec _) | exact BP.not _ _ _ (BP.var _) | exact BP.var _):WW P N (.cond c x y) Q e h :=
 ⟨AW.condB hc (fun ht=>(h1 (hb.both.1 ht)).out) (fun ht=>(h2 (hb.both.2 ht)).out)⟩
theorem WW.loopE {σ:Type}{c:CC}(E:σ→Env)(I:σ→AHeap→Prop)(μ:σ→Nat)(s₀:σ)(he:subE (E s₀) e)(h₀:I s₀ h)
  (round:∀ s h,I s h→WW P N c (thenQ (fun e' h'=>∃ s',subE (E s') e'∧I s' h'∧μ s' < μ s) Q) (E s) h):WW P N (.loop c) Q e h:=⟨AW.loopE E I μ s₀ he h₀ fun s h hi=>(round s h hi).out⟩
theorem WW.cvt {c:CC}(hc:Cvt e h e' h')(hw:WW P N c Q e' h'):WW P N c Q e h:=⟨AW.cvt hc hw.out⟩
theorem WL.nil (hq:Q .normal e h):WL P N [] Q e h:=⟨AL.nil hq⟩
theorem WL.auto {c:CI}(hs:Stp c e h e' h')(k:WL P N l Q e' h'):WL P N (c::l) Q e h:=⟨AL.auto hs k.out⟩
theorem WL.fx {c:CI}{r:Option AV}(hx:FX P N c e h r h')(k:WL P N l Q (putR c.d r e) h'):WL P N (c::l) Q e h:=⟨AL.fx hx k.out⟩
theorem WL.fq {c:CI}{R:Option AV→AHeap→Prop}(hx:FQ P N c e h R)(k:∀ r h',R r h'→WL P N l Q (putR c.d r e) h'):WL P N (c::l) Q e h:=⟨AL.fq hx fun r h' hR=>(k r h' hR).out⟩
theorem WL.cvt (hc:Cvt e h e' h')(hw:WL P N l Q e' h'):WL P N l Q e h:=⟨AL.cvt hc hw.out⟩
theorem WL.spB {dd:Option Nat}{i:Ins}{s:Nat}{b t:Bool}{p q:Prop}(hc:lk s e=some (.bool t))(h1:p→WL P N (⟨dd,i,some (s,b)⟩::l) Q ((s,some (.bool true))::e) h)(h2:q→WL P N (⟨dd,i,some (s,b)⟩::l) Q ((s,some (.bool false))::e) h)
  (hb:BP t p q:=by first | exact BP.lt _ _ | exact BP.le _ _ | exact BP.gt _ _ | exact BP.ge _ _ | exact BP.eq _ _ | exact BP.ne _ _ | exact BP.eqL _ _ | exact BP.neL _ _ | exact BP.dec _ | exact BP.not _ _ _ (BP.lt _ _) | exact BP.not _ _ _ (BP.eq _ _) | exact BP.not _ _ _ (BP.eqL _ _) | exact BP.not _ _ _ (BP.dec _) | exact BP.not _ _ _ (BP.var _) | exact BP.var _):WL P N (⟨dd,i,some (s,b)⟩::l) Q e h :=
 ⟨AL.split hc (fun ht=>(h1 (hb.both.1 ht)).out) (fun ht=>(h2 (hb.both.2 ht)).out)⟩
theorem WL.call {dd:Nat}{f:Nat}{xs:List Opd}{g:Option (Nat×Bool)}{vs us:List AV}{r:AV}(hv:evL e xs=some us)(hg:met e g)(hs:SubL us vs)(hac:AE P f vs h r h')(k:WL P N l Q ((dd,some r)::e) h'):WL P N (⟨some dd,.call f xs,g⟩::l) Q e h :=
 ⟨AL.callM hv hg ((hac.sub hs).use k.out)⟩
theorem WL.callA {dd:Nat}{f:Nat}{xs:List Opd}{g:Option (Nat×Bool)}{vs us:List AV}{R:AV→AHeap→Prop}(hv:evL e xs=some us)(hg:met e g)(hs:SubL us vs)(hac:AC P f vs h R)(k:∀ r h',R r h'→WL P N l Q ((dd,some r)::e) h'):WL P N (⟨some dd,.call f xs,g⟩::l) Q e h :=
 ⟨AL.callM hv hg ((hac.sub hs).mono fun r h' hR=>(k r h' hR).out)⟩
theorem AC.wf {f:Nat}{vs:List AV}{R:AV→AHeap→Prop}(hw:(∀ id x,h.get id=some x→id < h.next)→AC P f vs h R):AC P f vs h R:=fun m w cargs hr =>
 hw (fun id x hg=>(hr.live id x hg).1) m w cargs hr
theorem AE.wf {f:Nat}{vs:List AV}{r:AV}(hw:(∀ id x,h.get id=some x→id < h.next)→AE P f vs h r h'):AE P f vs h r h':=AC.wf hw
theorem AE.pureW {f:Nat}{cc:CC}{rcs:List RC}{vs:List AV}{r:AV}(hfn:FnIs P f N cc rcs)(hn:vs.length≤N)(hw:WW P N cc (PureQ h rcs r) (argE 0 vs) h):AE P f vs h r h:=AE.pureQ hfn hn hw.out
theorem AE.effW {f:Nat}{cc:CC}{rcs:List RC}{vs:List AV}{r:AV}(hfn:FnIs P f N cc rcs)(hn:vs.length≤N)(hx:Ext h h')(hw:WW P N cc (EffQ h' rcs r) (argE 0 vs) h):AE P f vs h r h':=AE.effQ hfn hn hx hw.out
theorem AC.introW {f:Nat}{cc:CC}{rcs:List RC}{vs:List AV}{R:AV→AHeap→Prop}(hfn:FnIs P f N cc rcs)(hn:vs.length≤N)
  (hw:WW P N cc (fun ex e h1=>(ex = .ret∨ex = .normal)∧∃ rs,resA h1.get e rcs=some rs∧R (fin rs) h1) (argE 0 vs) h):AC P f vs h R:=AC.intro hfn hn hw.out
theorem DW.spB {dd:Option Nat}{i:Ins}{s:Nat}{b t:Bool}{p q:Prop}(hc:lk s e=some (.bool t))(h1:p→DW P N Φ ws fs K j (⟨dd,i,some (s,b)⟩::l) ((s,some (.bool true))::e) h)(h2:q→DW P N Φ ws fs K j (⟨dd,i,some (s,b)⟩::l) ((s,some (.bool false))::e) h)
  (hb:BP t p q:=by first | exact BP.lt _ _ | exact BP.le _ _ | exact BP.gt _ _ | exact BP.ge _ _ | exact BP.eq _ _ | exact BP.ne _ _ | exact BP.eqL _ _ | exact BP.neL _ _ | exact BP.dec _ | exact BP.not _ _ _ (BP.lt _ _) | exact BP.not _ _ _ (BP.eq _ _) | exact BP.not _ _ _ (BP.eqL _ _) | exact BP.not _ _ _ (BP.dec _) | exact BP.not _ _ _ (BP.var _) | exact BP.var _):DW P N Φ ws fs K j (⟨dd,i,some (s,b)⟩::l) e h :=
 DW.split hc (fun ht=>h1 (hb.both.1 ht)) (fun ht=>h2 (hb.both.2 ht))

theorem WW.dreg0 [MO P]{es:List (List Nat)}(xs:List Nat)(hc:chkD l es (wsL l xs) []=true)(hd:DW P N (fun _=>True) (wsL l xs) [] (fun e h=>Q .normal e h) 0 l e h):WW P N (.dreg l es) Q e h:=⟨AW.dreg MO.mo hc trivial hd⟩
theorem DW.fx0 {c:CI}{r:Option AV}(hx:FX P N c e h r h')(h0:free0 c.i=false)(hw:ws.contains j=true)(hp:Φ h→Φ h')(hf:fs.contains j=false)(k:DW P N Φ ws fs K (j+1) l (putR c.d r e) h'):DW P N Φ ws fs K j (c::l) e h :=
 .fx hx (fun hz=>by rw [h0] at hz;cases hz) (fun hz=>by rw [hw] at hz;cases hz) hp (fun hz=>by rw [hf] at hz;cases hz) k
theorem DW.fxR {c:CI}{r:Option AV}(hx:FX P N c e h r h)(h0:free0 c.i=false)(hf:fs.contains j=false)(k:DW P N Φ ws fs K (j+1) l (putR c.d r e) h):DW P N Φ ws fs K j (c::l) e h :=
 .fx hx (fun hz=>by rw [h0] at hz;cases hz) (fun _=>rfl) id (fun hz=>by rw [hf] at hz;cases hz) k
theorem DW.fxF {c:CI}{r:Option AV}(hx:∀ h2,Φ h2→FX P N c e h2 r h2)(h0:free0 c.i=false)(hp:Φ h)(k:DW P N Φ ws fs K (j+1) l (putR c.d r e) h):DW P N Φ ws fs K j (c::l) e h :=
 .fx (hx h hp) (fun hz=>by rw [h0] at hz;cases hz) (fun _=>rfl) id (fun _=>hx) k
theorem DW.callS {d:Option Nat}{f:Nat}{xs:List Opd}{g:Option (Nat×Bool)}{vs us:List AV}{r:AV}(hv:evL e xs=some us)(hg:met e g)(hs:SubL us vs)(hf:fs.contains j=false)(hac:AE P f vs h r h)(k:DW P N Φ ws fs K (j+1) l (putR d (some r) e) h):DW P N Φ ws fs K j (⟨d,.call f xs,g⟩::l) e h :=
 DW.call hv hg hf (hac.sub hs) k
theorem DW.callSF {d:Option Nat}{f:Nat}{xs:List Opd}{g:Option (Nat×Bool)}{vs us:List AV}{r:AV}(hp:Φ h)(hv:evL e xs=some us)(hg:met e g)(hs:SubL us vs)(hac:∀ h2,Φ h2→AE P f vs h2 r h2)(k:DW P N Φ ws fs K (j+1) l (putR d (some r) e) h):DW P N Φ ws fs K j (⟨d,.call f xs,g⟩::l) e h :=
 DW.callF hp hv hg (fun h2 h3=>(hac h2 h3).sub hs) k
theorem DW.callSW {d:Option Nat}{f:Nat}{xs:List Opd}{g:Option (Nat×Bool)}{vs us:List AV}{r:AV}(hv:evL e xs=some us)(hg:met e g)(hs:SubL us vs)(hf:fs.contains j=false)(hw:ws.contains j=true)(hp:Φ h→Φ h')(hac:AE P f vs h r h')(k:DW P N Φ ws fs K (j+1) l (putR d (some r) e) h'):DW P N Φ ws fs K j (⟨d,.call f xs,g⟩::l) e h :=
 DW.callW hv hg hf hw hp (hac.sub hs) k
theorem WL.go {c:CI}(k:WL P N l Q e' h')(hs:Stp c e h e' h':=by exact Stp.auto):WL P N (c::l) Q e h:=⟨AL.step hs.ok k.out⟩

theorem PureQ.finD {rcs:List RC}{r:AV}{h1:AHeap}{rs:List AV}(hf:Fz h h1 (Go.Abs.fin rs) r)(hk:Keeps h h1:=by
  repeat first | with_reducible exact Keeps.refl _ | with_reducible refine Keeps.put ?_ (by omega) _ | with_reducible refine Keeps.set ?_ (by omega) _ | assumption)
  (hr:resA h1.get e rcs=some rs:=by
  repeat first | exact ze3 | (apply zkk;exact rfl) | (apply zkl;exact rfl;exact gH;exact (by first | exact ze rfl rfl | exact zy rfl | exact z4 (Nat.le_of_ble_eq_true rfl) (by first | (simp only [putC,AV.cs,encP,encN,encI,encS,encA,List.take_succ_cons,List.take_zero,List.take_nil,List.drop_succ_cons,List.drop_zero,List.drop_nil,List.cons_append,List.nil_append,List.append_nil,List.length_cons,List.length_nil,Nat.zero_add,Nat.add_zero,Nat.reduceAdd];exact rfl) | exact rfl) | exact z4 (by simp) (by first | (simp only [putC,AV.cs,encP,encN,encI,encS,encA,List.take_succ_cons,List.take_zero,List.take_nil,List.drop_succ_cons,List.drop_zero,List.drop_nil,List.cons_append,List.nil_append,List.append_nil,List.length_cons,List.length_nil,Nat.zero_add,Nat.add_zero,Nat.reduceAdd];exact rfl) | exact rfl)))):PureQ h rcs r .ret e h1:=PureQ.fin (.inl rfl) hk hr hf
theorem EffQ.finD {rcs:List RC}{r:AV}{h1:AHeap}{rs:List AV}(hk:Keeps h' h1)(hf:Fz h' h1 (Go.Abs.fin rs) r)
  (hr:resA h1.get e rcs=some rs:=by
  repeat first | exact ze3 | (apply zkk;exact rfl) | (apply zkl;exact rfl;exact gH;exact (by first | exact ze rfl rfl | exact zy rfl | exact z4 (Nat.le_of_ble_eq_true rfl) (by first | (simp only [putC,AV.cs,encP,encN,encI,encS,encA,List.take_succ_cons,List.take_zero,List.take_nil,List.drop_succ_cons,List.drop_zero,List.drop_nil,List.cons_append,List.nil_append,List.append_nil,List.length_cons,List.length_nil,Nat.zero_add,Nat.add_zero,Nat.reduceAdd];exact rfl) | exact rfl) | exact z4 (by simp) (by first | (simp only [putC,AV.cs,encP,encN,encI,encS,encA,List.take_succ_cons,List.take_zero,List.take_nil,List.drop_succ_cons,List.drop_zero,List.drop_nil,List.cons_append,List.nil_append,List.append_nil,List.length_cons,List.length_nil,Nat.zero_add,Nat.add_zero,Nat.reduceAdd];exact rfl) | exact rfl)))):EffQ h' rcs r .ret e h1:=EffQ.fin (.inl rfl) hk hr hf

theorem WW.dregX [MO P]{es:List (List Nat)}(ws fs W:List Nat){n:Nat}(hn:h.next=n)(hc:chkD l es ws fs=true)(hd:DW P N (PhiW n W h) ws fs (fun e h=>Q .normal e h) 0 l e h):WW P N (.dreg l es) Q e h:=⟨AW.dreg MO.mo hc PhiW.refl hd⟩
theorem DW.goWP {c:CI}{n:Nat}{W:List Nat}{h0:AHeap}(k:DW P N (PhiW n W h0) ws fs K (j+1) l e' h')(hs:Stp c e h e' h':=by exact Stp.auto)(hf:fs.contains j=false:=by exact rfl)(hw:ws.contains j=true:=by exact rfl)(hp:PhiW n W h0 h→PhiW n W h0 h':=by first | exact PhiW.put (by omega) | exact PhiW.setW (by simp) | exact PhiW.setN (by omega)):DW P N (PhiW n W h0) ws fs K j (c::l) e h:=DW.oneW hw hp hs hf k
theorem DW.goF {c:CI}{n:Nat}{W:List Nat}{h0:AHeap}(k:DW P N (PhiW n W h0) ws fs K (j+1) l e' h)(hs:∀ h2,PhiW n W h0 h2→Stp c e h2 e' h2:=by
  intro h2 hp2
  first
   | (apply Stp.load1; exact rfl; exact (hp2 _ (by omega) (by first | (simp; done) | (simp; omega))).trans gH; exact (by first | exact ze rfl rfl | exact zy rfl | exact z4 (Nat.le_of_ble_eq_true rfl) (by first | (simp only [putC, AV.cs, encP, encN, encI, encS, encA, List.take_succ_cons, List.take_zero, List.take_nil, List.drop_succ_cons, List.drop_zero, List.drop_nil, List.cons_append, List.nil_append, List.append_nil, List.length_cons, List.length_nil, Nat.zero_add, Nat.add_zero, Nat.reduceAdd]; exact rfl) | exact rfl) | exact z4 (by simp) (by first | (simp only [putC, AV.cs, encP, encN, encI, encS, encA, List.take_succ_cons, List.take_zero, List.take_nil, List.drop_succ_cons, List.drop_zero, List.drop_nil, List.cons_append, List.nil_append, List.append_nil, List.length_cons, List.length_nil, Nat.zero_add, Nat.add_zero, Nat.reduceAdd]; exact rfl) | exact rfl)); exact gM)
   | (apply Stp.loadp; exact rfl; exact (hp2 _ (by omega) (by first | (simp; done) | (simp; omega))).trans gH; exact (by first | exact z30 (List.getElem?_eq_getElem (by omega)) | exact z30 (List.getElem?_range (by omega)) | exact List.getElem?_eq_getElem (by omega) | exact rfl); exact (by first | exact ze rfl rfl | exact zy rfl | exact z4 (Nat.le_of_ble_eq_true rfl) (by first | (simp only [putC, AV.cs, encP, encN, encI, encS, encA, List.take_succ_cons, List.take_zero, List.take_nil, List.drop_succ_cons, List.drop_zero, List.drop_nil, List.cons_append, List.nil_append, List.append_nil, List.length_cons, List.length_nil, Nat.zero_add, Nat.add_zero, Nat.reduceAdd]; exact rfl) | exact rfl) | exact z4 (by simp) (by first | (simp only [putC, AV.cs, encP, encN, encI, encS, encA, List.take_succ_cons, List.take_zero, List.take_nil, List.drop_succ_cons, List.drop_zero, List.drop_nil, List.cons_append, List.nil_append, List.append_nil, List.length_cons, List.length_nil, Nat.zero_add, Nat.add_zero, Nat.reduceAdd]; exact rfl) | exact rfl)); exact gM)
   | exact Stp.auto) (hp : PhiW n W h0 h := by repeat first | exact PhiW.refl | refine PhiW.put (by omega) ?_ | refine PhiW.setW (by simp) ?_ | refine PhiW.setN (by omega) ?_) : DW P N (PhiW n W h0) ws fs K j (c :: l) e h := DW.oneF hp hs k
theorem FX.rawN {d:Option Nat}{x:Ex}{g:Option (Nat×Bool)}{r:Option AV}(hx:XOK P N x e h r .none)(hg:met e g):FX P N ⟨d,.raw x,g⟩ e h r h:=FX.raw hx hg
theorem FX.mkmap {d:Option Nat}{g:Option (Nat×Bool)}{nx:Nat}(hn:h.next=nx)(hg:met e g):FX P N ⟨d,.raw .mkmap,g⟩ e h (some (.map nx)) (h.put nx (.map [])):=by subst hn;exact FX.raw XOK.mkmap hg
theorem FX.appz {d:Option Nat}{g:Option (Nat×Bool)}{sz bytes n nx:Nat}{zs:List AV}{x y:Opd}{k:IntKind}{a:Int}(hx:ev e x=some .nils)(hy:ev e y=some (.int k a))(ha:a=n)(h0:0 < n)(hb:n*bytes≤140737488355328)(hn:h.next=nx)(hg:met e g) :
  FX P N ⟨d,.raw (.appz sz bytes zs x y),g⟩ e h (some (.ref nx 0 n)) (h.put nx (.mem sz (List.replicate n zs))):=by subst hn;exact FX.raw (XOK.appz hx hy ha h0 hb) hg
theorem FX.mput {d:Option Nat}{g:Option (Nat×Bool)}{mk:MK}{x y z:Opd}{id:Nat}{a v:AV}{es:List (AV×AV)}{r:Option (Nat×AV)}(hx:ev e x=some (.map id))(hy:ev e y=some a)(hz:ev e z=some v)(hm:h.get id=some (.map es))(hk:keyOK mk a)(hf:findA a es 0=some r)(hg:met e g) :
  FX P N ⟨d,.raw (.mput mk x y z),g⟩ e h none (h.set id (some (.map (putM es a v r)))):=FX.raw (XOK.mput hx hy hz hm hk hf) hg
theorem FX.look {d:Option Nat}{g:Option (Nat×Bool)}{mk:MK}{z:AV}{ok:Bool}{x y:Opd}{id:Nat}{a v:AV}{es:List (AV×AV)}{r:Option (Nat×AV)}(hx:ev e x=some (.map id))(hy:ev e y=some a)(hm:h.get id=some (.map es))(hk:keyOK mk a)(hf:findA a es 0=some r)(hv:lookR z ok r=v)(hg:met e g) :
  FX P N ⟨d,.raw (.look mk z ok x y),g⟩ e h (some v) h:=by subst hv;exact FX.raw (XOK.look hx hy hm hk hf) hg
theorem FX.bslN {d:Option Nat}{sz n nx:Nat}{xs:List Opd}{g:Option (Nat×Bool)}{vs:List AV}{c:List (List AV)}(hv:evL e xs=some vs)(hc:z2y sz vs=some c)(hl:c.length=n)(hn:h.next=nx)(hg:met e g):FX P N ⟨d,.bsl sz xs,g⟩ e h (some (.ref nx 0 n)) (h.put nx (.mem sz c)):=by subst hn;exact FX.bslM hv hc hl hg
theorem WL.fx1 {d:Nat}{i:Ins}{g:Option (Nat×Bool)}{v:AV}(hx:FX P N ⟨some d,i,g⟩ e h (some v) h')(k:WL P N l Q ((d,some v)::e) h'):WL P N (⟨some d,i,g⟩::l) Q e h:=WL.fx hx k
theorem WL.fx0 {i:Ins}{g:Option (Nat×Bool)}{r:Option AV}(hx:FX P N ⟨none,i,g⟩ e h r h')(k:WL P N l Q e h'):WL P N (⟨none,i,g⟩::l) Q e h:=WL.fx hx k
theorem WL.fq1 {d:Nat}{i:Ins}{g:Option (Nat×Bool)}{R:Option AV→AHeap→Prop}(hx:FQ P N ⟨some d,i,g⟩ e h R)(k:∀ r h',R r h'→WL P N l Q ((d,r)::e) h'):WL P N (⟨some d,i,g⟩::l) Q e h:=WL.fq hx k
theorem WL.gox {d:Nat}{i:Ins}{g:Option (Nat×Bool)}{v:AV}(k:WL P N l Q ((d,some v)::e) h')(hx:FX P N ⟨some d,i,g⟩ e h (some v) h':=by
  first
   | (apply FX.mkmap; exact gN; exact gM)
   | (apply FX.rawN; apply XOK.mlen; exact rfl; exact gH; exact gM)
   | (apply FX.rawN; apply XOK.caps0; exact rfl; exact gM)
   | (apply FX.rawN; apply XOK.slc00; exact rfl; exact ⟨_, rfl⟩; exact rfl; exact rfl; exact gM)
   | (apply FX.rawN; apply XOK.slcNN; exact rfl; exact rfl; exact rfl; exact (by first | with_reducible exact ix2 _ | with_reducible exact ix21 _ | rfl | exact (Int.toNat_of_nonneg (by omega)).symm); exact (by first | with_reducible exact ix2 _ | with_reducible exact ix21 _ | rfl | exact (Int.toNat_of_nonneg (by omega)).symm); exact (by first | omega | (simp; done) | (simp; omega)); exact ⟨_, gH⟩; exact gM)
   | (apply FX.appz; exact rfl; exact rfl; exact (by first | with_reducible exact ix2 _ | with_reducible exact ix21 _ | rfl | exact (Int.toNat_of_nonneg (by omega)).symm); exact (by first | omega | (simp; done) | (simp; omega)); exact (by first | omega | (simp; done) | (simp; omega)); exact gN; exact gM)) : WL P N (⟨some d, i, g⟩ :: l) Q e h := WL.fx1 hx k

structure WS (P:Program)(N:Nat)(S:List Nat)(l:List CI)(Q:Exit→Env→AHeap→Prop)(e:Env)(h:AHeap):Prop where
 out:∀ (ops:Array Oper) (idx:List Nat),(∀ i∈idx,i < ops.size)→idx.map (fun i=>compI P N ops (ops.getD i default))=l→∀ m w a,HR m h w→ER N m h w e a→(∀ s∈S,a.tmps.getD s undef=undef)→wpOps P ops (PA N Q m h w) idx a w
section
variable {S:List Nat}{m:Inj}{w:World}
theorem WS.off (k:WL P N l Q e h):WS P N S l Q e h:=⟨fun ops idx hlt hl m w a hr he _=>k.out ops idx hlt hl m w a hr he⟩
theorem zpj {a:Go.Act}{d s:Nat}(hs:s=d∨a.tmps.getD s undef=undef):(a.put (some d) undef).tmps.getD s undef=undef:=by
 simp only [Act.put,Array.getD_eq_getD_getElem?] at hs ⊢
 rw [Array.getElem?_setIfInBounds]
 split
 ·split
  ·rfl
  ·rfl
 ·rename_i hne
  rcases hs with rfl | hs
  ·exact absurd rfl hne
  ·exact hs
theorem WS.skip {d s:Nat}{i:Ins}{b:Bool}(hsk:S.contains s=true∨∃ t,lk s e=some (.bool t)∧(!b)=t)(k:WS P N (d::S) l Q ((d,none)::e) h):WS P N S (⟨some d,i,some (s,b)⟩::l) Q e h:=⟨fun ops idx hlt hl m w a hr he hS=>by
 cases idx with
 | nil => simp at hl
 | cons j idx =>
  simp only [List.map_cons,List.cons.injEq] at hl
  obtain ⟨hc,hl⟩:=hl
  have hilt:=hlt j (by simp)
  have ho:ops[j]? = some ops[j]:=Array.getElem?_eq_getElem hilt
  have hget:ops.getD j default=ops[j]:=by simp [hilt]
  rw [hget] at hc
  have hlt':∀ j∈idx,j < ops.size:=fun j hj=>hlt j (by simp [hj])
  rcases zx hc with ⟨hb1,hb2⟩ | ⟨hd,hdst,hcomp,hg⟩
  ·cases hb2
  ·have hw:Region.wanted ops[j] (yielded ops a.tmps)=false:=by
    rcases hsk with hsk | ⟨t,h1,h2⟩
    ·cases hgo:ops[j].guard with
     | none => simp only [hgo] at hg; cases hg
     | some jb =>
      obtain ⟨j0,b0⟩:=jb
      simp only [hgo] at hg
      obtain ⟨s0,hs0,hg0⟩:=hg
      cases hg0
      have hu:=hS s (by simpa using hsk)
      have hy:yielded ops a.tmps j0=none:=by
       unfold yielded
       rw [hs0]
       simp only [Option.bind_some]
       cases hx:a.tmps[s]? with
       | none => rfl
       | some x => simp [hx] at hu; subst hu; rfl
      simp only [Region.wanted,hgo,hy]
      cases b <;> rfl
    ·obtain ⟨w1,w2⟩:=zl he hg
     rw [w2 s b t rfl h1];subst h2;cases b <;> rfl
   have hd':(some d:Option Nat)=ops[j].dst:=hd
   simp only [wpOps,ho]
   rw [hw]
   simp only [Bool.false_eq_true,if_false]
   rw [← hd']
   refine k.out ops idx hlt' hl m w _ hr (he.skip d undef) fun s' hs' => ?_
   refine zpj ?_
   rcases List.mem_cons.1 hs' with rfl | hs'
   ·exact .inl rfl
   ·exact .inr (hS s' hs')⟩
theorem WS.unmet {d s:Nat}{i:Ins}{b t:Bool}(h1:lk s e=some (.bool t))(h2:(!b)=t)(k:WS P N (d::S) l Q ((d,none)::e) h):WS P N S (⟨some d,i,some (s,b)⟩::l) Q e h := .skip (.inr ⟨t,h1,h2⟩) k
theorem WL.unS {d s:Nat}{i:Ins}{b t:Bool}(h1:lk s e=some (.bool t))(h2:(!b)=t)(k:WS P N [d] l Q ((d,none)::e) h):WL P N (⟨some d,i,some (s,b)⟩::l) Q e h :=
 ⟨fun ops idx hlt hl m w a hr he=>(WS.unmet (S:=[]) h1 h2 k).out ops idx hlt hl m w a hr he (by simp)⟩
end
theorem blkN {id:Nat}(hq:Q .normal e h):zf6 id Q .normal e h:=hq
structure BoxP (B:Prop):Prop where
 out:B
theorem go {A B:Prop}(k:B)(hs:BoxP B→A:=by
  intro k
  repeat first | refine WL.unS rfl rfl ?_ | refine WS.dead rfl ?_ | refine WS.unmet rfl rfl ?_ | refine WS.off ?_ | refine WL.go ?_ | refine WW.seq ?_ | refine WW.reg ?_ | refine WL.nil ?_ | refine DW.go ?_ | refine DW.endL ?_ | refine WW.skip ?_ | refine WW.block ?_ | refine WW.exit ?_ | refine WW.condT rfl ?_ | refine WW.condF rfl ?_ | refine WL.gox ?_ | refine DW.gox ?_ | refine DW.goW ?_ (fun _=>True.intro) | refine DW.goWP ?_ | refine DW.goI ?_ | refine DW.goF ?_ | refine WW.dreg0 [] (by decide +kernel) ?_ | refine thenN ?_ | refine blkN ?_
  exact BoxP.out k):A:=hs ⟨k⟩
end
end Go.Abs

namespace Go.Abs
open Go

def z34 (g:Nat×Bool):List CI→List CI×List CI
 | [] => ([], [])
 | c :: l => match c.g with
  | none => ([], c :: l)
  | some (s, b) => match Nat.beq s g.1, b == g.2 with
   | true, true => (c :: (z34 g l).1, (z34 g l).2)
   | _, _ => ([], c :: l)
theorem z9l (g:Nat×Bool):∀ l,l=(z34 g l).1++(z34 g l).2
 | [] => rfl
 | c :: l => by
  simp only [z34]
  split
  ·rfl
  ·split
   ·simpa using z9l g l
   ·rfl
theorem zed (g:Nat×Bool):∀ l,∀ c∈(z34 g l).1,c.g=some g
 | [], c, hc => by simp [z34] at hc
 | x :: l, c, hc => by
  simp only [z34] at hc
  split at hc
  ·simp at hc
  ·rename_i s b hxg
   split at hc
   ·rename_i h1 h2
    rcases List.mem_cons.1 hc with rfl | hc
    ·rw [hxg]
     have e1:=Nat.eq_of_beq_eq_true h1
     have e2:b=g.2:=by simpa using h2
     rw [e1,e2]
    ·exact zed g l c hc
   ·simp at hc
def kill:List CI→Env→Env
 | [], e => e
 | c :: l, e => kill l (putR c.d none e)

section
variable {P:Program}{N:Nat}{e e':Env}{h h':AHeap}{Q:Exit→Env→AHeap→Prop}{l l1 rest:List CI}{K:Env→Prop}

inductive GW (P:Program) (N:Nat) (K:Env→Prop):List CI→Env→AHeap→Prop
 | nil {e : Env} {h : AHeap} (hk : K e) : GW P N K [] e h
 | fx {c : CI} {l : List CI} {e : Env} {h : AHeap} {r : Option AV} (hx : FX P N c e h r h) (k : GW P N K l (putR c.d r e) h) : GW P N K (c :: l) e h
theorem GW.goS {c:CI}(hs:Stp c e h e' h)(k:GW P N K l e' h):GW P N K (c::l) e h:=by
 obtain ⟨r,he,hx,_⟩:=FX.of_stp (P:=P) (N:=N) hs
 subst he
 exact .fx hx k
theorem GW.call {d:Option Nat}{f:Nat}{xs:List Opd}{g:Option (Nat×Bool)}{vs us:List AV}{r:AV}(hv:evL e xs=some us)(hg:met e g)(hs:SubL us vs)(hac:AE P f vs h r h)(k:GW P N K l (putR d (some r) e) h):GW P N K (⟨d,.call f xs,g⟩::l) e h :=
 .fx (FX.call hg hv (hac.sub hs)) k

theorem zr0 {e1 e2:Env}(hs:subE e1 e2)(d:Option Nat)(r:Option AV):subE (putR d none e1) (putR d r e2):=by
 intro i v hv
 cases d with
 | none => exact hs i v hv
 | some d =>
  simp only [putR,z6] at hv ⊢
  split at hv
  ·cases hv
  ·rename_i hne;rw [if_neg hne];exact hs i v hv
theorem AL.gw (hw:GW P N K l1 e h):∀ e0,subE e0 e→(∀ e',K e'→subE (kill l1 e0) e'→AL P N rest Q e' h)→AL P N (l1++rest) Q e h:=by
 induction hw with
 | nil hk => exact fun e0 hs k => k _ hk hs
 | fx hx _ ih => exact fun e0 hs k => AL.fx hx (ih _ (zr0 hs _ _) k)
theorem z63 {s:Nat}{v:AV}:∀ (l:List CI) {e:Env},l.all (fun c=>c.d !=some s)=true→lk s e=some v→lk s (kill l e)=some v
 | [], e, _, hv => hv
 | c :: l, e, ha, hv => by
  simp only [List.all_cons,Bool.and_eq_true] at ha
  refine z63 l ha.2 ?_
  cases hd:c.d with
  | none => exact hv
  | some d =>
   have:d≠s:=by have:=ha.1;rw [hd] at this;simpa using this
   simp only [putR,z6]
   rw [if_neg fun e=>this e.symm];exact hv
theorem AL.unmet {s:Nat}{b t:Bool}(hne:t≠b):∀ (l1:List CI) {e:Env},(∀ c∈l1,c.g=some (s,b))→l1.all (fun c=>c.d !=some s)=true→lk s e=some (.bool t)→AL P N rest Q (kill l1 e) h→AL P N (l1++rest) Q e h
 | [], e, _, _, _, k => k
 | c :: l, e, hg, ha, hs, k => by
  have ha':=ha
  simp only [List.all_cons,Bool.and_eq_true] at ha'
  refine AL.fx (FX.skip (hg c (by simp)) hs hne) (AL.unmet hne l (fun c hc=>hg c (by simp [hc])) ha'.2 ?_ k)
  exact z63 [c] (by simpa using ha'.1) hs
theorem BP.of {t:Bool}{p q:Prop}(hb:BP t p q:=by first | exact BP.lt _ _ | exact BP.le _ _ | exact BP.gt _ _ | exact BP.ge _ _ | exact BP.eq _ _ | exact BP.ne _ _ | exact BP.eqL _ _ | exact BP.neL _ _ | exact BP.dec _ | exact BP.not _ _ _ (BP.lt _ _) | exact BP.not _ _ _ (BP.eq _ _) | exact BP.not _ _ _ (BP.eqL _ _) | exact BP.not _ _ _ (BP.dec _) | exact BP.not _ _ _ (BP.var _) | exact BP.var _):BP t p q:=hb
theorem WL.andB {dd:Option Nat}{i:Ins}{s d r:Nat}{t u:Bool}{p q:Prop}(hs:lk s e=some (.bool t))(hsp:z34 (s,true) (⟨dd,i,some (s,true)⟩::l)=(l1,⟨some d,.pick (.t s) (.t r) (.c (.bool false)),none⟩::rest))(ha:l1.all (fun c=>c.d !=some s)=true)(hb:BP t p q)
  (h1:p→GW P N (fun e'=>lk r e'=some (.bool u)) l1 ((s,some (.bool true))::e) h) (k:WL P N rest Q ((d,some (.bool (t&&u)))::kill l1 e) h):WL P N (⟨dd,i,some (s,true)⟩::l) Q e h:=by
 have hl:=z9l (s,true) (⟨dd,i,some (s,true)⟩::l)
 have hg:=zed (s,true) (⟨dd,i,some (s,true)⟩::l)
 rw [hsp] at hl hg
 rw [hl]
 cases t with
 | false => exact ⟨AL.unmet (by simp) l1 hg ha hs (AL.auto (Stp.pickF (z63 l1 ha hs) rfl trivial) k.out)⟩
 | true =>
  have h0:subE ((s,some (.bool true))::e) e:=fun i v hv=>by
   simp only [z6] at hv
   split at hv
   ·rename_i e1;subst e1;cases hv;exact hs
   ·exact hv
  have h2:subE e ((s,some (.bool true))::e):=fun i v hv=>by
   simp only [z6]
   split
   ·rename_i e1;subst e1;rw [hs] at hv;exact hv
   ·exact hv
  refine ⟨AL.env h0 (AL.gw (h1 (hb.both.1 rfl)) _ h2 fun e' hr hk=>AL.auto (Stp.pickT (hk s _ (z63 l1 ha hs)) hr trivial) (AL.env ?_ k.out))⟩
  intro i v hv
  simp only [z6] at hv ⊢
  split at hv
  ·rename_i he;rw [if_pos he];simpa using hv
  ·rename_i hne;rw [if_neg hne];exact hk i v hv
theorem WL.orB {dd:Option Nat}{i:Ins}{s d r:Nat}{t u:Bool}{p q:Prop}(hs:lk s e=some (.bool t))(hsp:z34 (s,false) (⟨dd,i,some (s,false)⟩::l)=(l1,⟨some d,.pick (.t s) (.c (.bool true)) (.t r),none⟩::rest))(ha:l1.all (fun c=>c.d !=some s)=true)(hb:BP t p q)
  (h1:q→GW P N (fun e'=>lk r e'=some (.bool u)) l1 ((s,some (.bool false))::e) h) (k:WL P N rest Q ((d,some (.bool (t || u)))::kill l1 e) h):WL P N (⟨dd,i,some (s,false)⟩::l) Q e h:=by
 have hl:=z9l (s,false) (⟨dd,i,some (s,false)⟩::l)
 have hg:=zed (s,false) (⟨dd,i,some (s,false)⟩::l)
 rw [hsp] at hl hg
 rw [hl]
 cases t with
 | true => exact ⟨AL.unmet (by simp) l1 hg ha hs (AL.auto (Stp.pickT (z63 l1 ha hs) rfl trivial) k.out)⟩
 | false =>
  have h0:subE ((s,some (.bool false))::e) e:=fun i v hv=>by
   simp only [z6] at hv
   split at hv
   ·rename_i e1;subst e1;cases hv;exact hs
   ·exact hv
  have h2:subE e ((s,some (.bool false))::e):=fun i v hv=>by
   simp only [z6]
   split
   ·rename_i e1;subst e1;rw [hs] at hv;exact hv
   ·exact hv
  refine ⟨AL.env h0 (AL.gw (h1 (hb.both.2 rfl)) _ h2 fun e' hr hk=>AL.auto (Stp.pickF (hk s _ (z63 l1 ha hs)) hr trivial) (AL.env ?_ k.out))⟩
  intro i v hv
  simp only [z6] at hv ⊢
  split at hv
  ·rename_i he;rw [if_pos he];simpa using hv
  ·rename_i hne;rw [if_neg hne];exact hk i v hv
def CvtV (u:AV)(h:AHeap)(v:AV)(h':AHeap):Prop:=∀ (m:Inj) (w:World) (c:Value),HR m h w→VR m h w u c→∃ m',HR m' h' w∧VR m' h' w v c∧Step m h w m' h' w
theorem AC.mapR {f:Nat}{vs:List AV}{R R2:AV→AHeap→Prop}(hac:AC P f vs h R)(hc:∀ r h1,R r h1→∃ r2 h2,CvtV r h1 r2 h2∧R2 r2 h2):AC P f vs h R2:=fun m w cargs hr hl hv =>
 (hac m w cargs hr hl hv).mono fun ex w' ⟨v,m',r,h1,e1,g1,g2,g3,hR⟩=>by
  obtain ⟨r2,h2,hcv,hR2⟩:=hc r h1 hR
  obtain ⟨m2,k1,k2,k3⟩:=hcv m' w' v g1 g2
  exact ⟨v,m2,r2,h2,e1,k1,k2,g3.trans k3,hR2⟩
theorem CvtV.grow {id n sz nx:Nat}{c c':List (List AV)}(hg:h.get id=some (.mem sz c))(hc:c.take n=c')(hn:h.next=nx):CvtV (.ref id 0 n) h (.app nx 0 sz c') ((h.set id none).put nx (.tail 0 n)):=fun m w cv hr hv=>by
 subst hn hc
 obtain ⟨m',k1,k2,k3⟩:=zne hr (z11 hr) hg hv
 exact ⟨m',k1,k3,k2⟩
theorem CvtV.adopt {sz nx:Nat}(hn:h.next=nx):CvtV .nils h (.app nx 0 sz []) (h.put nx (.tail 0 0)):=fun m w cv hr hv=>by
 subst hn
 have hf:=z11 hr
 refine ⟨_,hr.putv hf,?_,z3f hr hf⟩
 cases hv with
 | nils0 => exact .app0 _ _ _ z2 (z4n (by simp [upd]))
 | nils1 a => exact .app1 _ _ _ _ z2 (z4n (by simp [upd]))
end
end Go.Abs

namespace Go.Abs
open Go

section
variable {P:Program}{N:Nat}{e e':Env}{h h':AHeap}{l:List CI}{Q:Exit→Env→AHeap→Prop}{m:Inj}{w:World}

end
section
variable {P:Program}{N:Nat}{e e':Env}{h h':AHeap}{l:List CI}{Q:Exit→Env→AHeap→Prop}
end
end Go.Abs

--abbrs off
namespace Go.Abs
open Go
section
variable {e e':Env}{h h1:AHeap}
theorem gK (p:Keeps h h1:=by repeat first | with_reducible exact Keeps.refl _ | with_reducible refine Keeps.put ?_ (by omega) _ | with_reducible refine Keeps.set ?_ (by omega) _ | with_reducible refine Keeps.keep ?_ | assumption):Keeps h h1:=p
theorem gE {i:Nat}{x:Option AObj}(p:h.get i=x:=by repeat first | with_reducible apply z3 (by omega) | with_reducible apply z1 (by omega) | with_reducible apply zik | exact rfl):h.get i=x:=p
theorem gSL {us vs:List AV}(p:SubL us vs:=by repeat first | exact SubL.nil | refine SubL.cons (SubV.refl _) ?_ | refine SubL.cons SubV.app ?_ | refine SubL.cons SubV.nil ?_):SubL us vs:=p
theorem gSUB (p:subE e' e:=by repeat first | exact subE.nil _ | (apply subE.cons;focus (first | exact rfl | (simp [z6];done) | (simp [z6];omega)))):subE e' e:=p
theorem gLE {n m:Nat}(p:n≤m:=by repeat first | exact Nat.le_refl _ | refine z32 ?_ | refine z33 ?_ | assumption):n≤m:=p
theorem gRES {g:Nat→Option AObj}{rc:List RC}{rs:List AV}(p:resA g e rc=some rs:=by repeat first | exact ze3 | (apply zkk;exact rfl) | (apply zkl;exact rfl;exact gH;exact (by first | exact ze rfl rfl | exact zy rfl | exact z4 (Nat.le_of_ble_eq_true rfl) (by first | (simp only [putC,AV.cs,encP,encN,encI,encS,encA,List.take_succ_cons,List.take_zero,List.take_nil,List.drop_succ_cons,List.drop_zero,List.drop_nil,List.cons_append,List.nil_append,List.append_nil,List.length_cons,List.length_nil,Nat.zero_add,Nat.add_zero,Nat.reduceAdd];exact rfl) | exact rfl) | exact z4 (by simp) (by first | (simp only [putC,AV.cs,encP,encN,encI,encS,encA,List.take_succ_cons,List.take_zero,List.take_nil,List.drop_succ_cons,List.drop_zero,List.drop_nil,List.cons_append,List.nil_append,List.append_nil,List.length_cons,List.length_nil,Nat.zero_add,Nat.add_zero,Nat.reduceAdd];exact rfl) | exact rfl)))):resA g e rc=some rs:=p
end
end Go.Abs


namespace Go.Proofs.YthblcmnhiccnhaaGreat
open Go Go.Abs
instance moI:MO Tryz.prog:=⟨by kernel_rfl⟩

abbrev Bs:=List UInt8
theorem zbg (b:UInt8):∀ v∈encB b,AV.flat v=true:=by simp [encB,AV.flat]
theorem flatB (l:Bs):flatC (l.map encB):=z2m zbg

theorem zp (l:Bs)(hl:l.length≤1000000)(h:AHeap):AE Tryz.prog 87 [.imm 1 (l.map encB)] h (.imm 1 (l.map encB)) h:=by
 refine AE.pureW z8g (by simp) ?_
 unfold z5e;dsimp only [qQ,qR,qM,qG]
 (refine go ?_)
 refine WL.fq1 (FQ.isnil rfl gM) ?_
 rintro _ _ ⟨b,rfl,rfl,hb⟩
 (refine go ?_)
 (refine WW.ifB rfl (fun hz1 => ?_) (fun hz1 => ?_))
 ·(refine go ?_)
  refine WW.ret (PureQ.finD ?_)
  have:l=[]:=by simpa using hb hz1
  subst this
  exact .nil _
 ·(refine go ?_)
  refine WW.ret (PureQ.finD ?_)
  exact z83 rfl (flatB l)
theorem z4p (a b:Bs)(h:AHeap):AE Tryz.prog 179 [.imm 1 (a.map encB),.imm 1 (b.map encB)] h (.bool (a==b)) h:=by
 refine AE.pureW zh8 (by simp) ?_
 unfold za6;dsimp only [qQ,qR,qM,qG]
 (refine go ?_)
 refine WW.ret (PureQ.finD ?_)
 exact fz_b rfl

def zfl (v:Int)(n i:Nat):UInt8:=UInt8.ofNat ((v / 2 ^ (8*(n - 1 - i))) % 256).toNat
def putB (v:Int)(n:Nat):Bs:=if n < 1∨8 < n then [] else (List.range n).map (zfl v n)
theorem zst (a:Int):IntKind.u8.wrap a=((UInt8.ofNat (a % 256).toNat).toNat:Int):=by
 have:IntKind.u8.wrap a=a % 256:=rfl
 rw [this]
 have h1:=Int.emod_nonneg a (show (256:Int)≠0 by decide)
 have h2:=Int.emod_lt_of_pos a (show (0:Int) < 256 by decide)
 simp
 omega
theorem znh {v b:Int}{k:Nat}(hb:b=((8*k:Nat):Int))(hk:8*k≤64):shA .shr .u64 v b=some (.int .u64 (v / 2 ^ (8*k))):=by
 subst hb
 have h0:(0:Int)≤((8*k:Nat):Int):=Int.natCast_nonneg _
 show req (0≤((8*k:Nat):Int)) _=_
 rw [z19 h0]
 have h1:min (((8*k:Nat):Int).toNat) IntKind.u64.bits=8*k:=by
  have:IntKind.u64.bits=64:=rfl
  rw [this];simp;omega
 rw [h1,Int.fdiv_eq_ediv_of_nonneg _ (by exact Int.le_of_lt (Int.pow_pos (by decide)))]
theorem zig (v:Int){n i:Nat}:IntKind.u8.wrap (v / 2 ^ (8*(n - 1 - i)))=((zfl v n i).toNat:Int):=zst _

theorem zu (v:Int)(n:Int)(h:AHeap)(hn:0≤n∧n≤8):AE Tryz.prog 173 [.int .u64 v,.int .i64 n] h (.imm 1 ((putB v n.toNat).map encB)) h:=by
 obtain ⟨m,rfl⟩:=Int.eq_ofNat_of_zero_le hn.1
 refine AE.pureW zdj (by simp) ?_
 unfold z9j;dsimp only [qQ,qR,qM,qG]
 (refine go ?_)
 (apply WL.orB;exact rfl;exact rfl;exact rfl;exact BP.of;intro hz1)
 ·(repeat first | (apply GW.goS;exact Stp.auto) | apply GW.nil | exact rfl)
 (refine go ?_)
 (refine WW.ifB rfl (fun hz2 => ?_) (fun hz2 => ?_))
 ·(refine go ?_)
  refine WW.ret (PureQ.finD ?_)
  have:putB v m=[]:=by
   rw [putB,if_pos]
   simp at hz2
   omega
  simp [this]
  exact .nil _
 have hm:1≤m∧m≤8:=by simp at hz2;omega
 (refine go ?_)
 refine WW.loopE (fun (i:Nat)=>[(0,some (.int .u64 v)),(1,some (.int .i64 m)),(5,some (.ref h.next 0 m)),(16,some (.int .i64 m)),(17,some (.int .i64 i))])
  (fun i h'=>h'.get h.next=some (.mem 1 ((List.range m).map fun k=>if k < i then encB (zfl v m k) else [.int .u8 0]))∧Keeps h h'∧i≤m) (fun i=>m - i) 0 gSUB ⟨?_,gK,by omega⟩ ?_
 ·rw [← zbf (x:=[.int .u8 0]) (by intros;rfl)]
  exact gH
 rintro i h' ⟨g1,g2,g3⟩
 (refine go ?_)
 (refine WW.ifB rfl (fun hz3 => ?_) (fun hz3 => ?_))
 ·(refine go ?_)
  have e1:(8:Int)*((m:Int) - 1 - (i:Int))=((8*(m - 1 - i):Nat):Int):=by omega
  refine WL.auto (Stp.sh rfl rfl (znh e1 (by omega)) gM) ?_
  refine WL.auto (Stp.conv rfl (zig v) gM) ?_
  (refine go ?_)
  refine ⟨i+1,gSUB,⟨?_,gK,by omega⟩,by omega⟩
  rw [za,Nat.zero_add,zeb (by simp [putC,AV.cs,encB])]
 ·(refine go ?_)
  refine WW.ret (PureQ.finD ?_)
  rw [zec (by omega)] at g1
  refine zb5 g1 (Nat.le_refl _) (by simp) ?_ (z2m fun _=>zbg _)
  rw [putB,if_neg (by omega)]
  simp
theorem z6i (s t:Pr):(s.1==t.1&&(s.2==t.2&&true))=(s==t):=by
 rw [Bool.and_true];rfl
theorem zkv {a:Nat}(ha:a < 4294967296):(a:Int).fdiv (2 ^ min (Int.toNat 32) IntKind.u64.bits)=0:=by
 have h1:min (Int.toNat 32) IntKind.u64.bits=32:=rfl
 rw [h1,Int.fdiv_eq_ediv_of_nonneg _ (by decide)]
 omega
theorem and32 {a:Nat}(ha:a < 4294967296):bits .and .u64 (a:Int) 4294967295=a:=by
 have h1:bits .and .u64 (a:Int) ((4294967295:Nat):Int)=((a &&& 4294967295:Nat):Int):=bits_and_u64_nat a 4294967295 (by omega) (by omega)
 have h2:a &&& 4294967295=a:=by
  have:=Nat.and_two_pow_sub_one_eq_mod a 32
  simp at this
  rw [this];omega
 rw [h2] at h1
 exact h1
theorem wrapU {a:Nat}(ha:a < 18446744073709551616):IntKind.u64.wrap (a:Int)=a:=z1z (by constructor <;> omega)
theorem zjd (a b:Nat)(hab:a < 65536∧b < 65536)(h:AHeap):AE Tryz.prog 279 [.int .u64 a,.int .u64 b] h (.tup [.int .u64 0,.int .u64 (a*b:Nat)]) h:=by
 have hp:a*b < 4294967296:=by
  have:a*b≤65535*65535:=Nat.mul_le_mul (by omega) (by omega)
  omega
 have e1:=zkv (a:=a) (by omega)
 have e2:=zkv (a:=b) (by omega)
 have e3:=and32 (a:=a) (by omega)
 have e4:=and32 (a:=b) (by omega)
 have e5:IntKind.u64.wrap ((a:Int)*b)=((a*b:Nat):Int):=by rw [← Int.natCast_mul];exact wrapU (by omega)
 have e6:=zkv (a:=a*b) hp
 have e7:IntKind.u64.wrap 0=0:=rfl
 have e8:(0:Int).fdiv (2 ^ min (Int.toNat 32) IntKind.u64.bits)=0:=by simp
 have e9:bits .and .u64 0 4294967295=0:=by rfl
 refine AE.pureW zbe (by simp) ?_
 unfold z5l;dsimp only [qQ,qR,qM,qG]
 (refine go ?_)
 refine WW.ret (PureQ.finD ?_)
 refine Fz.tup2 (fz_i ?_) (fz_i (by first | exact e5 | simp))
 simp only [e1,e2,e3,e4,e5,e6,e7,e8,e9,Int.zero_mul,Int.mul_zero,Int.add_zero,Int.zero_add]
theorem zml (a b:Nat)(hab:a < 65536∧b < 65536)(h:AHeap):AE Tryz.prog 239 [.int .u64 a,.int .u64 b] h (.tup [.int .u64 0,.int .u64 (a*b:Nat)]) h:=by
 refine AE.pureW ze9 (by simp) ?_
 unfold z77;dsimp only [qQ,qR,qM,qG]
 (refine go ?_)
 refine WL.call rfl gM gSL (zjd a b hab _) ?_
 (refine go ?_)
 refine WW.ret (PureQ.finD ?_)
 exact Fz.tup2 (fz_i rfl) (fz_i rfl)

theorem zhb (n:Nat)(hn:0 < n∧n≤100000000)(h:AHeap):AE Tryz.prog 236 [.nils,.int .i64 n] h (.ref h.next 0 0) (h.put h.next (.mem 1 (List.replicate n [.int .u8 0]))):=by
 refine AC.introW z2w (by simp) ?_
 unfold z1w;dsimp only [qQ,qR,qM,qG]
 (refine go ?_)
 (refine WW.ifB rfl (fun hz2 => ?_) (fun hz2 => ?_))
 ·(refine go ?_)
  refine WW.ret ⟨.inl rfl,_,gRES,rfl,rfl⟩
 ·omega
end Go.Proofs.YthblcmnhiccnhaaGreat


namespace Go.Proofs.YthblcmnhiccnhaaGreat
open Go Go.Abs

def x64 (a b:Int):Int:=bits .xor .u64 a b
def o64 (a b:Int):Int:=bits .or .u64 a b
def shl64 (a:Int)(n:Nat):Int:=IntKind.u64.wrap (a*2 ^ n)
def shr64 (a:Int)(n:Nat):Int:=a.fdiv (2 ^ n)
def rotR8 (x:Int):Int:=o64 (shl64 x 56) (shr64 x 8)
def rotL3 (x:Int):Int:=o64 (shl64 x 3) (shr64 x 61)
def mixF (x y k:Int):Int×Int:=(x64 (IntKind.u64.wrap (rotR8 x+y)) k,x64 (rotL3 y) (x64 (IntKind.u64.wrap (rotR8 x+y)) k))
def rkF:Nat→Nat→Int→Int→List Int
 | 0, _, _, _ => []
 | n + 1, i, l, k => k :: rkF n (i + 1) (mixF l k (i : Int)).1 (mixF l k (i : Int)).2
def keysF (key:Pr):List Int:=rkF 32 0 key.1 key.2
def encF (key block:Pr):Pr:=(keysF key).foldl (fun s k=>mixF s.1 s.2 k) block
def addF (a b:Pr):Pr:=(x64 a.1 b.1,x64 a.2 b.2)
def dblF (a:Pr):Pr:=(o64 (shl64 a.1 1) (shr64 a.2 63),if shr64 a.1 63==1 then x64 (shl64 a.2 1) 135 else shl64 a.2 1)
def digF (b:Pr)(i:Nat):Bool:=bits .and .u64 (shr64 (if i < 64 then b.1 else b.2) (63 - i % 64)) 1==1
def mulF (a b:Pr):Pr:=(List.range 128).foldl (fun out i=>if digF b i then addF (dblF out) a else dblF out) (0,0)
def evalF (h:Pr)(l:List Pr):Pr:=l.foldl (fun out x=>mulF (addF x out) h) (0,0)
def pairB (p:Pr):Bs:=putB p.1 8++putB p.2 8
def getB (b:Bs):Int:=b.foldl (fun v c=>o64 (shl64 v 8) (c.toNat:Int)) 0
def pairF (b:Bs):Pr:=(getB (b.take 8),getB (b.drop 8))
def rowsF (b:Bs):List Bs:=if h:b=[] then [] else b.take 16::rowsF (b.drop 16)
termination_by b.length
decreasing_by
 have:0 < b.length:=List.length_pos_iff.2 h
 simp;omega
def fillF (b:Bs):Bs:=b++List.replicate (16 - b.length) 0
def z17 (b:Bs):List Pr:=(rowsF b).map fun r=>pairF (fillF r)
def subF (key:Pr)(n:Nn):Pr:=encF key (o64 (shl64 (IntKind.u64.wrap n.1) 32) (IntKind.u64.wrap n.2.1),n.2.2)
def flowR (sub:Pr):Nat→Nat→Bs
 | 0, _ => []
 | k + 1, i => pairB (encF sub ((i : Int), 0)) ++ flowR sub k (i + 1)
def flowF (sub:Pr)(n:Nat):Bs:=(flowR sub ((n+15) / 16) 1).take n
def xorB (a b:Bs):Bs:=List.zipWith (fun x y=>x ^^^ y) a b
def tagF (sub:Pr)(head b:Bs):Pr:=addF (evalF (encF sub (0,1)) (z17 head++z17 b++[((head.length:Int),(b.length:Int))])) (encF sub (0,0))
def gcmB (key:Pr)(n:Nn)(data:Bs):Bs:=xorB data (flowF (subF key n) data.length)
def gcmT (key:Pr)(n:Nn)(head b:Bs):Pr:=tagF (subF key n) head b
def gcmO (key:Pr)(n:Nn)(head b:Bs)(tg:Pr):Option Bs:=if head.length≤4000∧b.length≤4000∧gcmT key n head b=tg then some (gcmB key n b) else none
def stepF (s m:Pr):Pr:=(x64 (encF m s).1 s.1,x64 (encF m s).2 s.2)
def padF (p:Bs):Bs:=p++[128]++List.replicate ((24 - (p.length+1) % 16) % 16) 0++putB (p.length:Nat) 8
def z2s (p:Bs):Pr:=(rowsF (padF p)).foldl (fun s r=>stepF s (pairF r)) (7640891576956012808,13503953896175478587)
end Go.Proofs.YthblcmnhiccnhaaGreat


namespace Go.Proofs.YthblcmnhiccnhaaGreat
open Go Go.Abs

theorem zpk (x:Int)(h:AHeap):AE Tryz.prog 276 [.int .u64 x,.int .i64 (-8)] h (.int .u64 (rotR8 x)) h:=by
 refine AE.pureW z2h (by simp) ?_
 unfold z1g;dsimp only [qQ,qR,qM,qG]
 (repeat first | refine WW.seq ?_ | refine WW.reg ?_ | refine WL.nil ?_ | refine WW.skip ?_ | refine WW.block ?_ | refine thenN ?_ | refine blkN ?_);iterate 1 (refine WL.go ?_)
 (repeat first | refine WW.seq ?_ | refine WW.reg ?_ | refine WL.nil ?_ | refine WW.skip ?_ | refine WW.block ?_ | refine thenN ?_ | refine blkN ?_);iterate 1 (refine WL.go ?_)
 refine WL.auto (Stp.conv rfl (show IntKind.u64.wrap (-8)=18446744073709551608 from rfl) gM) ?_
 refine WL.auto (Stp.bin rfl rfl (show _=some (AV.int .u64 56) from rfl) gM) ?_
 (refine go ?_)
 refine WW.ret (PureQ.finD ?_)
 exact fz_i rfl
theorem zpl (x:Int)(h:AHeap):AE Tryz.prog 276 [.int .u64 x,.int .i64 3] h (.int .u64 (rotL3 x)) h:=by
 refine AE.pureW z2h (by simp) ?_
 unfold z1g;dsimp only [qQ,qR,qM,qG]
 (refine go ?_)
 refine WW.ret (PureQ.finD ?_)
 exact fz_i rfl
theorem zbh (x y k:Int)(h:AHeap):AE Tryz.prog 231 [.int .u64 x,.int .u64 y,.int .u64 k] h (.tup [.int .u64 (mixF x y k).1,.int .u64 (mixF x y k).2]) h:=by
 refine AE.pureW zks (by simp) ?_
 unfold zdh;dsimp only [qQ,qR,qM,qG]
 (refine go ?_)
 refine WL.call rfl gM gSL (zpk _ _) ?_
 (refine go ?_)
 refine WL.call rfl gM gSL (zpl _ _) ?_
 (refine go ?_)
 refine WW.ret (PureQ.finD ?_)
 exact Fz.tup2 (fz_i rfl) (fz_i rfl)
theorem flatP (p:Pr):∀ v∈encP p,AV.flat v=true:=by simp [encP,AV.flat]
def encW (v:Int):List AV:=[.int .u64 v]
theorem flatW (l:List Int):flatC (l.map encW):=z2m fun v=>by simp [encW,AV.flat]
theorem zni:∀ (n i:Nat) (l k:Int),(rkF n i l k).length=n
 | 0, _, _, _ => rfl
 | n + 1, i, l, k => by simp [rkF, zni n]
theorem zpm (key:Pr):(keysF key).length=32:=zni _ _ _ _
structure RkS where
 i:Nat
 l:Int
 k:Int
 a:List Int
theorem zsu {key:Pr}{s:RkS}(h1:s.i < 32)(h2:keysF key=s.a++rkF (32 - s.i) s.i s.l s.k):keysF key=(s.a++[s.k])++rkF (32 - (s.i+1)) (s.i+1) (mixF s.l s.k (s.i:Int)).1 (mixF s.l s.k (s.i:Int)).2:=by
 rw [h2,List.append_assoc]
 congr 1
 rw [show 32 - s.i=(32 - (s.i+1))+1 by omega]
 rfl
theorem zje (key:Pr)(h:AHeap):AE Tryz.prog 230 [.agg (encP key)] h (.imm 1 ((keysF key).map encW)) h:=by
 refine AE.pureW zjb (by simp) ?_
 unfold zbc;dsimp only [qQ,qR,qM,qG]
 (refine go ?_)
 refine WW.cvt (Cvt.adopt 1 (s:=5) rfl gN) ?_
 refine WW.loopE (fun (s:RkS)=>[(3,some (.int .u64 s.l)),(4,some (.int .u64 s.k)),(5,some (.app (h.next+1) 0 1 (s.a.map encW))),(11,some (.int .u64 s.i))])
  (fun s h'=>h'.get (h.next+1)=some (.tail 0 s.i)∧Keeps h h'∧s.i≤32∧s.a.length=s.i∧keysF key=s.a++rkF (32 - s.i) s.i s.l s.k) (fun s=>32 - s.i) ⟨0,key.1,key.2,[]⟩ gSUB ⟨(by repeat first | exact zi (by first | rfl | exact List.length_map _ | (simp;done) | (simp;omega)) | exact get_set_tl (by first | rfl | exact List.length_map _ | (simp;done) | (simp;omega)) | assumption | with_reducible apply z3 (by omega) | with_reducible apply z1 (by omega)),gK,by simp,rfl,rfl⟩ ?_
 rintro ⟨i,l,k,a⟩ h' ⟨g1,g2,g3,g4,g5⟩
 simp only at g1 g2 g3 g4 g5
 (refine go ?_)
 (refine WW.ifB rfl (fun hz1 => ?_) (fun hz1 => ?_))
 ·have hi:i < 32:=by simp only at hz1;omega
  (refine go ?_)
  refine WL.call rfl gM gSL (zbh _ _ _ _) ?_
  (refine go ?_)
  refine ⟨⟨i+1,(mixF l k (i:Int)).1,(mixF l k (i:Int)).2,a++[k]⟩,(by repeat first | exact subE.nil _ | (apply subE.cons;focus (first | exact rfl | (simp [z6,encW];done) | (simp [z6,encW];omega)))),⟨(by repeat first | exact zi (by first | rfl | exact List.length_map _ | (simp;done) | (simp;omega)) | exact get_set_tl (by first | rfl | exact List.length_map _ | (simp;done) | (simp;omega)) | assumption | with_reducible apply z3 (by omega) | with_reducible apply z1 (by omega)),gK,hi,by simp [g4],zsu (s:=⟨i,l,k,a⟩) hi g5⟩,(by show 32 - (i+1) < 32 - i;omega)⟩
 ·(refine go ?_)
  refine WW.ret (PureQ.finD ?_)
  refine z83 ?_ (flatW _)
  rw [g5,show 32 - i=0 by simp only at hz1;omega]
  simp [rkF]
theorem z1c (key block:Pr)(h:AHeap):AE Tryz.prog 165 [.agg (encP key),.agg (encP block)] h (.agg (encP (encF key block))) h:=by
 refine AE.pureW ze8 (by simp) ?_
 unfold z76;dsimp only [qQ,qR,qM,qG]
 (refine go ?_)
 refine WL.call rfl gM gSL (zje key _) ?_
 (refine go ?_)
 have hl:=zpm key
 refine WW.loopE (fun (s:Nat×Pr)=>[(5,some (.int .u64 s.2.1)),(6,some (.int .u64 s.2.2)),(14,some (.imm 1 ((keysF key).map encW))),(15,some (.int .i64 (keysF key).length)),(16,some (.int .i64 s.1)),(4,some (.ptr (h.next+2) 0 0))])
  (fun s h'=>h'.get (h.next+2)=some (.mem 2 [[.int .u64 0,.int .u64 0]])∧h'.next=h.next+3∧Keeps h h'∧s.1≤(keysF key).length∧encF key block=((keysF key).drop s.1).foldl (fun s k=>mixF s.1 s.2 k) s.2) (fun s=>(keysF key).length - s.1) (0,block) gSUB ⟨gH,gN,gK,by simp,by simp [encF]⟩ ?_
 rintro ⟨i,x,y⟩ h' ⟨g1,g2,g3,g4,g5⟩
 simp only at g1 g2 g3 g4 g5
 (refine go ?_)
 (refine WW.ifB rfl (fun hz1 => ?_) (fun hz1 => ?_))
 ·have hi:i < (keysF key).length:=by simp only at hz1;omega
  (refine go ?_)
  refine WL.call rfl gM gSL (zbh _ _ _ _) ?_
  (refine go ?_)
  refine ⟨(i+1,mixF x y (keysF key)[i]),gSUB,⟨gH,gN,gK,hi,?_⟩,(by show _ - (i+1) < _ - i;omega)⟩
  rw [g5,List.drop_eq_getElem_cons hi];rfl
 ·have hi:i=(keysF key).length:=by simp only at hz1;omega
  (refine go ?_)
  refine WW.ret (PureQ.finD ?_)
  rw [g5,hi,List.drop_length]
  exact zd rfl (flatP (x,y))
end Go.Proofs.YthblcmnhiccnhaaGreat


namespace Go.Proofs.YthblcmnhiccnhaaGreat
open Go Go.Abs

theorem z6j (a b:Pr)(h:AHeap):AE Tryz.prog 234 [.agg (encP a),.agg (encP b)] h (.agg (encP (addF a b))) h:=by
 refine AE.pureW zkq (by simp) ?_
 unfold zdf;dsimp only [qQ,qR,qM,qG]
 (refine go ?_)
 refine WW.ret (PureQ.finD ?_)
 exact zd rfl (flatP (addF a b))
theorem dbl_T {a:Pr}(hz:shr64 a.1 63=1):dblF a=(o64 (shl64 a.1 1) (shr64 a.2 63),x64 (shl64 a.2 1) 135):=by rw [dblF,if_pos (by simp [hz])]
theorem dbl_F {a:Pr}(hz:shr64 a.1 63≠1):dblF a=(o64 (shl64 a.1 1) (shr64 a.2 63),shl64 a.2 1):=by rw [dblF,if_neg (by simp [hz])]
theorem zfm (a:Pr)(h:AHeap):AE Tryz.prog 295 [.agg (encP a)] h (.agg (encP (dblF a))) h:=by
 refine AE.pureW zff (by simp) ?_
 unfold z8c;dsimp only [qQ,qR,qM,qG]
 (refine go ?_)
 refine WW.ifB rfl (fun hz => ?_) (fun hz => ?_)
 ·(refine go ?_)
  refine WW.ret (PureQ.finD ?_)
  rw [dbl_T (show shr64 a.1 63=1 from hz)]
  exact zd rfl (flatP (_,_))
 ·(refine go ?_)
  refine WW.ret (PureQ.finD ?_)
  rw [dbl_F (show shr64 a.1 63≠1 from hz)]
  exact zd rfl (flatP (_,_))
theorem zua {i:Nat}(hi:i < 64):binA .quo .i64 (i:Int) 64=some (.int .i64 0):=by
 show some (AV.int .i64 (IntKind.i64.wrap ((i:Int).tdiv 64)))=_
 rw [Int.tdiv_eq_ediv_of_nonneg (by omega),show (i:Int) / 64=0 by omega];rfl
theorem zub {i:Nat}(hi:64≤i)(h2:i < 128):binA .quo .i64 (i:Int) 64=some (.int .i64 1):=by
 show some (AV.int .i64 (IntKind.i64.wrap ((i:Int).tdiv 64)))=_
 rw [Int.tdiv_eq_ediv_of_nonneg (by omega),show (i:Int) / 64=1 by omega];rfl
theorem zuc (i:Nat):binA .rem .i64 (i:Int) 64=some (.int .i64 ((i % 64:Nat):Int)):=by
 show some (AV.int .i64 ((i:Int).tmod 64))=_
 rw [Int.tmod_eq_emod_of_nonneg (by omega)];rfl
theorem zud (i:Nat):binA .sub .i64 63 ((i % 64:Nat):Int)=some (.int .i64 ((63 - i % 64:Nat):Int)):=by
 show some (AV.int .i64 (IntKind.i64.wrap (63 - ((i % 64:Nat):Int))))=_
 rw [z1z (by constructor <;> omega),show (63:Int) - ((i % 64:Nat):Int)=((63 - i % 64:Nat):Int) by omega]
theorem shr_n (v:Int){k:Nat}(hk:k≤64):shA .shr .u64 v (k:Int)=some (.int .u64 (shr64 v k)):=by
 show req (0≤(k:Int)) _=_
 rw [z19 (by omega),Int.toNat_natCast,show min k IntKind.u64.bits=k from Nat.min_eq_left hk];rfl
theorem and_n (v w:Int):binA .and .u64 v w=some (.int .u64 (bits .and .u64 v w)):=rfl
def mulS (a b:Pr)(out:Pr)(i:Nat):Pr:=if digF b i then addF (dblF out) a else dblF out
def mulR (a b:Pr)(n:Nat):Pr:=(List.range n).foldl (mulS a b) (0,0)
theorem zih (a b:Pr)(n:Nat):mulR a b (n+1)=mulS a b (mulR a b n) n:=by simp [mulR,List.range_succ]
theorem zue (a b:Pr):mulF a b=mulR a b 128:=rfl
theorem zuf {b:Pr}{i:Nat}(hi:i < 64):binA .eql .u64 (bits .and .u64 (shr64 b.1 (63 - i % 64)) 1) 1=some (.bool (digF b i)):=by rw [digF,if_pos hi];rfl
theorem zug {b:Pr}{i:Nat}(hi:64≤i):binA .eql .u64 (bits .and .u64 (shr64 b.2 (63 - i % 64)) 1) 1=some (.bool (digF b i)):=by rw [digF,if_neg (by omega)];rfl
def lt128 (i:Nat):Bool:=decide (i < 128)
theorem zsv {i:Nat}(hz:lt128 i=true):i < 128:=by simpa [lt128] using hz
theorem zsw {i:Nat}(hz:lt128 i=false):128≤i:=by simpa [lt128] using hz
theorem zsx (i:Nat):binA .lss .i64 (i:Int) 128=some (.bool (lt128 i)):=by
 exact congrArg (fun b=>some (AV.bool b)) (decide_eq_decide.2 (by omega))
attribute [local irreducible] digF lt128
structure MulS where
 i:Nat
 o:Pr
theorem zkw (a b:Pr)(h:AHeap):AE Tryz.prog 277 [.agg (encP a),.agg (encP b)] h (.agg (encP (mulF a b))) h:=by
 refine AE.pureW zkr (by simp) ?_
 unfold zdg;dsimp only [qQ,qR,qM,qG]
 (refine go ?_)
 refine WW.loopE (fun (s:MulS)=>[(2,some (.ptr h.next 0 0)),(3,some (.ptr (h.next+1) 0 0)),(4,some (.ptr (h.next+2) 0 0)),(5,some (.ptr (h.next+3) 0 0)),(7,some (.int .i64 s.i))])
  (fun s h'=>h'.get h.next=some (.mem 2 [encP a])∧h'.get (h.next+1)=some (.mem 2 [encP b])∧h'.get (h.next+2)=some (.mem 2 [encP (0,0)])∧h'.get (h.next+3)=some (.mem 2 [encP s.o])∧h'.next=h.next+4∧Keeps h h'∧s.i≤128∧s.o=mulR a b s.i) (fun s=>128 - s.i) ⟨0,(0,0)⟩ gSUB ⟨gH,gH,gH,gH,gN,gK,Nat.zero_le _,rfl⟩ ?_
 rintro ⟨i,o⟩ h' ⟨g1,g2,g3,g4,g5,g6,g7,g8⟩
 simp only at g1 g2 g3 g4 g5 g6 g7 g8 ⊢
 (repeat first | refine WW.seq ?_ | refine WW.reg ?_ | refine WL.nil ?_ | refine WW.skip ?_ | refine WW.block ?_ | refine thenN ?_ | refine blkN ?_)
 refine WL.auto (Stp.bin rfl rfl (zsx i) gM) ?_
 (repeat first | refine WW.seq ?_ | refine WW.reg ?_ | refine WL.nil ?_ | refine WW.skip ?_ | refine WW.block ?_ | refine thenN ?_ | refine blkN ?_)
 refine WW.ifB rfl (fun hz1 => ?_) (fun hz1 => ?_)
 ·have hi:=zsv hz1
  (refine go ?_)
  refine WL.call rfl gM gSL (zfm o _) ?_
  rcases Nat.lt_or_ge i 64 with hc | hc
  have hq:=zua hc
  have hd:=zuf (b:=b) hc
  rotate_left
  have hq:=zub hc hi
  have hd:=zug (b:=b) hc
  rotate_left
  all_goals
   (repeat first | refine WW.seq ?_ | refine WW.reg ?_ | refine WL.nil ?_ | refine WW.skip ?_ | refine WW.block ?_ | refine thenN ?_ | refine blkN ?_);iterate 1 (refine WL.go ?_)
   (repeat first | refine WW.seq ?_ | refine WW.reg ?_ | refine WL.nil ?_ | refine WW.skip ?_ | refine WW.block ?_ | refine thenN ?_ | refine blkN ?_);iterate 1 (refine WL.go ?_)
   refine WL.auto (Stp.bin rfl rfl hq gM) ?_
   iterate 3 (refine WL.go ?_)
   refine WL.auto (Stp.bin rfl rfl (zuc i) gM) ?_
   refine WL.auto (Stp.bin rfl rfl (zud i) gM) ?_
   refine WL.auto (Stp.sh rfl rfl (shr_n _ (by omega)) gM) ?_
   refine WL.auto (Stp.bin rfl rfl (and_n _ _) gM) ?_
   refine WL.auto (Stp.bin rfl rfl hd gM) ?_
   (refine go ?_)
   refine WW.ifB rfl (fun hz => ?_) (fun hz => ?_)
   ·(refine go ?_)
    refine WL.call rfl gM gSL (z6j (dblF o) a _) ?_
    (refine go ?_)
    have e1:addF (dblF o) a=mulR a b (i+1):=by
     rw [zih,mulS,if_pos (by simp [hz]),g8]
    generalize addF (dblF o) a=o' at *
    refine ⟨⟨i+1,o'⟩,gSUB,⟨gH,gH,gH,gH,gN,gK,hi,e1⟩,(by show 128 - (i+1) < 128 - i;omega)⟩
   ·(refine go ?_)
    have e1:dblF o=mulR a b (i+1):=by
     rw [zih,mulS,if_neg (by simp [hz]),g8]
    generalize dblF o=o' at *
    refine ⟨⟨i+1,o'⟩,gSUB,⟨gH,gH,gH,gH,gN,gK,hi,e1⟩,(by show 128 - (i+1) < 128 - i;omega)⟩
 ·have hi:=zsw hz1
  (refine go ?_)
  refine WW.ret (PureQ.finD ?_)
  rw [zue,g8,show i=128 by omega]
  exact zd rfl (flatP _)
end Go.Proofs.YthblcmnhiccnhaaGreat


set_option maxRecDepth 100000
namespace Go.Proofs.YthblcmnhiccnhaaGreat
open Go Go.Abs

def zbi:CC := .seq (.reg [qM 0 (.c .nilp)]) (.seq (.reg [qQ 2 (.call 118 []),qM 1 (.t 2)]) (.seq (.reg [qM 3 (.t 1),qQ 4 (.mkf (.func 119) [.t 3] []),qM 5 (.t 1),qQ 6 (.mkf (.func 120) [.t 5] []),qM 7 (.t 1),qQ 8 (.mkf (.func 121) [.t 7] []),qM 9 (.t 1),qQ 10 (.mkf (.func 116) [.t 9] []),qM 11 (.t 1),qQ 12 (.mkf (.func 117) [.t 11] []),qQ 13 (.build [.nilf,.nilf,.nilf,.nilf,.nilf] [(0,1,.t 4),(1,1,.t 6),(2,1,.t 8),(3,1,.t 10),(4,1,.t 12)]),qQ 14 (.box 5 (.t 13)),qM 0 (.t 14)]) .ret))
theorem zjf:FnIs Tryz.prog 65 15 zbi [.t 0]:=⟨Tryz.f65,_,Tryz.func65,rfl,rfl,by kernel_rfl,by kernel_rfl⟩

def zdk:CC := .seq (.reg [qM 0 (.c .nilp)]) (.seq (.reg [qM 1 (.c .nilp)]) (.seq (.reg [qM 2 (.t 1),qQ 3 (.mkf (.func 116) [.t 2] []),qM 4 (.t 1),qQ 5 (.mkf (.func 117) [.t 4] []),qQ 6 (.build [.nilf,.nilf,.nilf,.nilf,.nilf] [(0,1,.c (.func (.func 113) [] [])),(1,1,.c (.func (.func 114) [] [])),(2,1,.c (.func (.func 115) [] [])),(3,1,.t 3),(4,1,.t 5)]),qQ 7 (.box 5 (.t 6)),qM 0 (.t 7)]) .ret))
theorem zkx:FnIs Tryz.prog 64 8 zdk [.t 0]:=⟨Tryz.f64,_,Tryz.func64,rfl,rfl,by kernel_rfl,by kernel_rfl⟩

def z3a:CC := .seq (.reg [qQ 6 (.box 2 (.t 1)),qQ 7 (.box 3 (.t 2)),qQ 10 (.alloc [.nils,.int .u64 0,.int .u64 0]),qM 11 (.c (.bool false))]) (.seq (.seq (.reg [qM 12 (.t 0),qQ 13 (.eqv .p false (.t 12) (.c .nilp))]) (.cond (.t 13) (.seq (.reg [qQ 14 (.build [.nils,.int .u64 0,.int .u64 0] []),qR (.store 3 (.t 10) (.t 14)),qM 11 (.c (.bool false))]) .ret) .skip)) (.seq (.dreg [qM 15 (.t 0),qQ 16 (.nilck (.t 15)),qQ 17 (.faddr 0 (.t 16)),qQ 18 (.load 1 false (.t 17)),qQ 19 (.load 2 true (.t 6)),qQ 20 (.load 3 true (.t 7)),qM 21 (.t 3),qM 22 (.t 4),qQ 23 (.callv (.t 18) [.t 19,.t 20,.t 21,.t 22]),qQ 24 (.ext 0 (.t 23)),qQ 25 (.ext 1 (.t 23)),qR (.store 3 (.t 10) (.t 24)),qM 11 (.t 25)] [[],[0],[1],[2],[],[],[],[],[3,4,5,6,7],[8],[8],[9,8,0,1,2,3,4,5,6,7,8,9,10],[10,11,0,1,2,3,4,5,6,7,8,9,10,11]]) .ret))
theorem z5m:FnIs Tryz.prog 201 26 z3a [.cell 10 3 true,.t 11]:=⟨Tryz.f201,_,Tryz.func201,rfl,rfl,by kernel_rfl,by kernel_rfl⟩

def z3b:CC := .seq (.reg [qQ 6 (.box 2 (.t 1)),qQ 7 (.box 3 (.t 2)),qQ 9 (.box 3 (.t 4)),qM 10 (.c .nils),qM 11 (.c (.bool false))]) (.seq (.seq (.reg [qM 12 (.t 0),qQ 13 (.eqv .p false (.t 12) (.c .nilp))]) (.cond (.t 13) (.seq (.reg [qM 10 (.c .nils),qM 11 (.c (.bool false))]) .ret) .skip)) (.seq (.dreg [qM 14 (.t 0),qQ 15 (.nilck (.t 14)),qQ 16 (.faddr 1 (.t 15)),qQ 17 (.load 1 false (.t 16)),qQ 18 (.load 2 true (.t 6)),qQ 19 (.load 3 true (.t 7)),qM 20 (.t 3),qQ 21 (.load 3 true (.t 9)),qQ 22 (.callv (.t 17) [.t 18,.t 19,.t 20,.t 21]),qQ 23 (.ext 0 (.t 22)),qQ 24 (.ext 1 (.t 22)),qM 10 (.t 23),qM 11 (.t 24)] [[],[0],[1],[2],[],[],[],[],[3,4,5,6,7],[8],[8],[9,8,0,1,2,3,4,5,6,7,8,9,10],[10,11,0,1,2,3,4,5,6,7,8,9,10,11]]) .ret))
theorem z5n:FnIs Tryz.prog 197 25 z3b [.t 10,.t 11]:=⟨Tryz.f197,_,Tryz.func197,rfl,rfl,by kernel_rfl,by kernel_rfl⟩

def z40:CC := .seq (.reg [qQ 4 (.alloc [.int .u64 0,.int .u64 0])]) (.seq (.seq (.reg [qM 5 (.t 0),qQ 6 (.eqv .p false (.t 5) (.c .nilp))]) (.cond (.t 6) (.seq (.reg [qQ 7 (.build [.int .u64 0,.int .u64 0] []),qR (.store 2 (.t 4) (.t 7))]) .ret) .skip)) (.seq (.reg [qM 8 (.t 0),qQ 9 (.nilck (.t 8)),qQ 10 (.faddr 2 (.t 9)),qQ 11 (.load 1 false (.t 10)),qM 12 (.t 1),qQ 13 (.callv (.t 11) [.t 12]),qR (.store 2 (.t 4) (.t 13))]) .ret))
theorem z6k:FnIs Tryz.prog 281 14 z40 [.cell 4 2 true]:=⟨Tryz.f281,_,Tryz.func281,rfl,rfl,by kernel_rfl,by kernel_rfl⟩

end Go.Proofs.YthblcmnhiccnhaaGreat


set_option maxRecDepth 100000
namespace Go.Proofs.YthblcmnhiccnhaaGreat
open Go Go.Abs

def zii:CC := .seq (.reg [qM 2 (.c (.bool false))]) (.seq (.reg [qM 3 (.t 0),qQ 4 (.bin .eql (.t 3) (.c (.int .i64 4))),qM 5 (.t 4),qG 6 (.mov (.t 0)) 5 false,qG 7 (.bin .eql (.t 6) (.c (.int .i64 8))) 5 false,qQ 8 (.pick (.t 5) (.c (.bool true)) (.t 7)),qM 9 (.t 8),qG 10 (.mov (.t 0)) 9 false,qG 11 (.bin .eql (.t 10) (.c (.int .i64 16))) 9 false,qQ 12 (.pick (.t 9) (.c (.bool true)) (.t 11)),qM 2 (.t 12)]) .ret)
theorem zoh:FnIs Tryz.prog 62 13 zii [.t 2]:=⟨Tryz.f62,_,Tryz.func62,rfl,rfl,by kernel_rfl,by kernel_rfl⟩

def z8i:CC := .seq (.reg [qQ 4 (.alloc [.int .u64 0,.int .u64 0])]) (.seq (.reg [qM 5 (.t 0),qQ 6 (.bsl 1 [.c (.int .u8 0)]),qM 7 (.t 1),qQ 8 (.bsl 1 [.t 6,.t 7]),qQ 9 (.call 281 [.t 5,.t 8]),qR (.store 2 (.t 4) (.t 9))]) .ret)
theorem zfn:FnIs Tryz.prog 245 10 z8i [.cell 4 2 true]:=⟨Tryz.f245,_,Tryz.func245,rfl,rfl,by kernel_rfl,by kernel_rfl⟩

def z8j:CC := .seq (.reg [qQ 4 (.box 2 (.t 1)),qQ 5 (.box 2 (.t 2)),qQ 6 (.alloc [.int .u64 0,.int .u64 0])]) (.seq (.dreg [qM 7 (.t 0),qQ 8 (.bsl 1 [.c (.int .u8 1)]),qQ 9 (.load 2 true (.t 4)),qQ 10 (.call 232 [.t 9]),qQ 11 (.load 2 true (.t 5)),qQ 12 (.call 232 [.t 11]),qQ 13 (.bsl 1 [.t 8,.t 10,.t 12]),qQ 14 (.call 281 [.t 7,.t 13]),qR (.store 2 (.t 6) (.t 14))] [[],[],[],[2],[],[4,3],[1,3,5],[0,6,5],[7,7,0,1,2,3,4,5,6,7]]) .ret)
theorem zfo:FnIs Tryz.prog 246 15 z8j [.cell 6 2 true]:=⟨Tryz.f246,_,Tryz.func246,rfl,rfl,by kernel_rfl,by kernel_rfl⟩

def zbj:CC := .seq (.reg [qM 4 (.c .nils),qM 5 (.c (.bool false))]) (.seq (.reg [qM 11 (.t 1),qQ 12 (.len (.t 11)),qM 6 (.t 12)]) (.seq (.seq (.reg [qM 13 (.t 6),qQ 14 (.call 62 [.t 13]),qQ 15 (.not (.t 14))]) (.cond (.t 15) (.seq (.reg [qM 4 (.c .nils),qM 5 (.c (.bool false))]) .ret) .skip)) (.seq (.reg [qM 16 (.t 6),qQ 17 (.bin .mul (.c (.int .i64 2)) (.t 16)),qQ 18 (.mksl 2 [.int .u64 0,.int .u64 0] 16 (.t 17) (.t 17)),qM 7 (.t 18)]) (.seq (.seq (.reg [qM 19 (.t 1),qQ 20 (.len (.t 19)),qM 21 (.c (.int .i64 0))]) (.block 0 (.loop (.seq (.reg [qQ 22 (.bin .lss (.t 21) (.t 20))]) (.seq (.cond (.t 22) .skip (.exit 0)) (.seq (.block 1 (.seq (.reg [qM 23 (.t 21),qQ 24 (.iaddr 1 (.t 19) (.t 21)),qQ 25 (.load 1 false (.t 24)),qM 8 (.t 23),qM 9 (.t 25)]) (.reg [qM 26 (.t 7),qM 27 (.t 6),qM 28 (.t 8),qQ 29 (.bin .add (.t 27) (.t 28)),qM 30 (.t 0),qM 31 (.t 9),qQ 32 (.call 245 [.t 30,.t 31]),qQ 33 (.iaddr 2 (.t 26) (.t 29)),qR (.store 2 (.t 33) (.t 32))]))) (.reg [qQ 34 (.bin .add (.t 21) (.c (.int .i64 1))),qM 21 (.t 34)]))))))) (.seq (.seq (.reg [qM 35 (.t 6),qQ 36 (.bin .sub (.t 35) (.c (.int .i64 1))),qM 10 (.t 36)]) (.block 2 (.loop (.seq (.seq (.reg [qM 37 (.t 10),qQ 38 (.bin .gtr (.t 37) (.c (.int .i64 0)))]) (.cond (.t 38) .skip (.exit 2))) (.seq (.block 3 (.dreg [qM 41 (.t 7),qM 42 (.t 10),qM 43 (.t 0),qM 44 (.t 7),qM 45 (.t 10),qQ 46 (.bin .mul (.c (.int .i64 2)) (.t 45)),qQ 47 (.iaddr 2 (.t 44) (.t 46)),qQ 48 (.load 2 true (.t 47)),qM 49 (.t 7),qM 50 (.t 10),qQ 51 (.bin .mul (.c (.int .i64 2)) (.t 50)),qQ 52 (.bin .add (.t 51) (.c (.int .i64 1))),qQ 53 (.iaddr 2 (.t 49) (.t 52)),qQ 54 (.load 2 true (.t 53)),qQ 55 (.call 246 [.t 43,.t 48,.t 54]),qQ 56 (.iaddr 2 (.t 41) (.t 42)),qR (.store 2 (.t 56) (.t 55))] [[],[],[],[],[],[4],[3,5],[6],[],[],[9],[10],[8,11],[12],[2,7,13],[0,1,0,1,2,3,4,5,6,7,8,9,10,11,12,13,14],[15,14,14,0,1,2,3,4,5,6,7,8,9,10,11,12,13,14]])) (.reg [qM 39 (.t 10),qQ 40 (.bin .sub (.t 39) (.c (.int .i64 1))),qM 10 (.t 40)])))))) (.seq (.reg [qM 57 (.t 7),qM 4 (.t 57),qM 5 (.c (.bool true))]) .ret))))))
theorem zjg:FnIs Tryz.prog 187 58 zbj [.t 4,.t 5]:=⟨Tryz.f187,_,Tryz.func187,rfl,rfl,by kernel_rfl,by kernel_rfl⟩

def zbk:CC := .seq (.reg [qQ 1 (.box 2 (.t 0)),qM 2 (.c .nils)]) (.seq (.dreg [qQ 3 (.iaddrA 2 1 (.t 1) (.c (.int .i64 0))),qQ 4 (.load 1 false (.t 3)),qQ 5 (.call 173 [.t 4,.c (.int .i64 8)]),qQ 6 (.iaddrA 2 1 (.t 1) (.c (.int .i64 1))),qQ 7 (.load 1 false (.t 6)),qQ 8 (.call 173 [.t 7,.c (.int .i64 8)]),qQ 9 (.app 1 1 (.t 5) (.t 8)),qM 2 (.t 9)] [[],[0],[1],[],[3],[4,2],[2,5,5],[6,6,0,1,2,3,4,5,6]]) .ret)
theorem zjh:FnIs Tryz.prog 232 10 zbk [.t 2]:=⟨Tryz.f232,_,Tryz.func232,rfl,rfl,by kernel_rfl,by kernel_rfl⟩

end Go.Proofs.YthblcmnhiccnhaaGreat


namespace Go.Proofs.YthblcmnhiccnhaaGreat
open Go Go.Abs

theorem zfp (h:AHeap):AE Tryz.prog 236 [.nils,.int .i64 0] h .nils h:=by
 refine AE.pureW z2w (by simp) ?_
 unfold z1w;dsimp only [qQ,qR,qM,qG]
 (refine go ?_)
 refine WW.ret (PureQ.finD ?_)
 exact .clo _ .nils
theorem z78 (n:Nat)(hn:n≤100000000)(h:AHeap):AC Tryz.prog 236 [.nils,.int .i64 n] h (fun r h'=>∃ T,r = .app T 0 1 []∧h.next≤T∧h'.get T=some (.tail 0 0)∧Keeps h h'):=by
 rcases Nat.eq_zero_or_pos n with rfl | h0
 ·refine (zfp h).mapR ?_
  rintro _ _ ⟨rfl,rfl⟩
  exact ⟨_,_,.adopt rfl,_,rfl,Nat.le_refl _,get_put_same,gK⟩
 ·refine (zhb n ⟨h0,hn⟩ h).mapR ?_
  rintro _ _ ⟨rfl,rfl⟩
  refine ⟨_,_,.grow get_put_same rfl (z2k rfl),_,rfl,by omega,get_put_same,gK⟩

def encR (b:Bs):List AV:=[.imm 1 (b.map encB)]
theorem z79 (l:List Bs){i:Nat}(hi:i < l.length):(l.take (i+1)).flatten=(l.take i).flatten++l[i]:=by
 rw [List.take_succ_eq_append_getElem hi,List.flatten_append]
 simp only [List.flatten_cons,List.flatten_nil,List.append_nil]
theorem z37 (l:List Bs)(i:Nat):(l.take i).flatten.length≤l.flatten.length:=by
 have:l.flatten=(l.take i).flatten++(l.drop i).flatten:=by rw [← List.flatten_append,List.take_append_drop]
 rw [this];simp
theorem z2c (l:List Bs)(hl:l.length≤1000000)(hf:l.flatten.length≤100000000)(h:AHeap):AE Tryz.prog 172 [.imm 1 (l.map encR)] h (.imm 1 (l.flatten.map encB)) h:=by
 refine AE.pureW z2i (by simp) ?_
 unfold z1h;dsimp only [qQ,qR,qM,qG]
 (refine go ?_)
 refine WW.loopE (fun (i:Nat)=>[(0,some (.imm 1 (l.map encR))),(3,some (.int .i64 (l.take i).flatten.length)),(9,some (.imm 1 (l.map encR))),(10,some (.int .i64 l.length)),(11,some (.int .i64 i))])
  (fun i h'=>h=h'∧i≤l.length) (fun i=>l.length - i) 0 gSUB ⟨rfl,by omega⟩ ?_
 rintro i _ ⟨rfl,g2⟩
 (refine go ?_)
 (refine WW.ifB rfl (fun hz1 => ?_) (fun hz1 => ?_))
 ·have e1:(l.take (i+1)).flatten.length=(l.take i).flatten.length+l[i].length:=by rw [z79 l (by omega)];simp
  have e2:=z37 l (i+1)
  (refine go ?_)
  refine ⟨i+1,(by repeat first | exact subE.nil _ | (apply subE.cons;focus (first | exact rfl | (simp [z6,e1];done) | (simp [z6,e1];omega)))),⟨rfl,by omega⟩,by omega⟩
 have hi:i=l.length:=by omega
 subst hi
 rw [List.take_length]
 (refine go ?_)
 refine WL.callA rfl gM gSL (z78 _ hf _) ?_
 rintro _ h1 ⟨T,rfl,q1,q2,q3⟩
 (refine go ?_)
 refine WW.loopE (fun (i:Nat)=>[(6,some (.app T 0 1 ((l.take i).flatten.map encB))),(25,some (.imm 1 (l.map encR))),(26,some (.int .i64 l.length)),(27,some (.int .i64 i))])
  (fun i h'=>h'.get T=some (.tail 0 (l.take i).flatten.length)∧Keeps h h'∧i≤l.length) (fun i=>l.length - i) 0 gSUB ⟨by simpa using q2,q3,by omega⟩ ?_
 rintro i h2 ⟨g1,g2,g3⟩
 (refine go ?_)
 (refine WW.ifB rfl (fun hz3 => ?_) (fun hz3 => ?_))
 ·have e1:=z79 l (i:=i) (by omega)
  have e2:=z37 l (i+1)
  have e3:(l.take (i+1)).flatten.length=(l.take i).flatten.length+l[i].length:=by rw [e1];simp
  (refine go ?_)
  refine ⟨i+1,(by repeat first | exact subE.nil _ | (apply subE.cons;focus (first | exact rfl | (simp [z6,e1];done) | (simp [z6,e1];omega)))),⟨?_,gK,by omega⟩,by omega⟩
  rw [za,e3]
 ·have hi:i=l.length:=by omega
  subst hi
  (refine go ?_)
  refine WW.ret (PureQ.finD ?_)
  exact z83 (by rw [List.take_length]) (flatB _)

def rep (l:Bs)(n:Nat):Bs:=(List.range n).map fun k=>l.getD (k % l.length) 0
theorem zfq (l:Bs)(k:Nat)(hl:0 < l.length)(hk:0 < k)(hm:l.length*k≤8192)(h:AHeap):AE Tryz.prog 178 [.imm 1 (l.map encB),.int .i64 k] h (.imm 1 ((rep l (l.length*k)).map encB)) h:=by
 have h1:l.length≤8192:=Nat.le_trans (Nat.le_mul_of_pos_right _ hk) hm
 have h2:k≤8192:=Nat.le_trans (Nat.le_mul_of_pos_left _ hl) hm
 generalize hn:l.length*k=n at hm
 refine AE.pureW zfh (by simp) ?_
 unfold z8f;dsimp only [qQ,qR,qM,qG]
 (refine go ?_)
 (refine WW.ifB rfl (fun hz1 => ?_) (fun hz1 => ?_))
 ·omega
 (refine go ?_)
 refine WL.call rfl gM gSL (zml l.length k ⟨by omega,by omega⟩ _) ?_
 rw [hn]
 (refine go ?_)
 (refine WW.ifB rfl (fun hz2 => ?_) (fun hz2 => ?_))
 ·omega
 (refine go ?_)
 (refine WW.ifB rfl (fun hz3 => ?_) (fun hz3 => ?_))
 ·omega
 (refine go ?_)
 (refine WW.ifB rfl (fun hz4 => ?_) (fun hz4 => ?_))
 ·omega
 (refine go ?_)
 refine WL.fq1 (FQ.noZero (n:=n) (fn:=Tryz.f240) (t:=28) (el:=5) (by kernel_rfl) (by kernel_rfl) (by kernel_rfl) (by kernel_rfl) (by kernel_rfl) (by kernel_rfl) rfl rfl (by omega) gM) ?_
 rintro _ _ ⟨q,rfl,rfl⟩
 have hln:l.length≤n:=by rw [← hn];exact Nat.le_mul_of_pos_right _ hk
 have hmin:min (l.map encB).length n=l.length:=by simp;omega
 (refine go ?_)
 refine WW.loopE (fun (s:Nat×List (List AV))=>[(7,some (.int .i64 n)),(8,some (.int .i64 n)),(9,some (.ref h.next 0 n)),(10,some (.int .i64 s.1))])
  (fun s h'=>h'.get h.next=some (.mem 1 s.2)∧Keeps h h'∧s.2.length=n∧(∀ k,k < s.1→s.2[k]? = some (encB (l.getD (k % l.length) 0)))∧0 < s.1∧s.1≤n∧s.1 % l.length=0) (fun s=>n - s.1) (l.length,_) (by repeat first | exact subE.nil _ | (apply subE.cons;focus (first | exact rfl | (simp [z6,hmin];done) | (simp [z6,hmin];omega)))) ⟨gH,gK,by simp;omega,?_,hl,hln,Nat.mod_self _⟩ ?_
 ·intro j hj
  dsimp only at hj
  rw [Nat.mod_eq_of_lt hj]
  simp only [hmin]
  rw [List.append_assoc,List.getElem?_append_right (by simp),List.getElem?_append_left (by simp;omega)]
  simp [hj]
 rintro ⟨bp,C⟩ h2 ⟨g1,g2,g3,g4,g5,g6,g7⟩
 dsimp only at g1 g3 g4 g5 g6 g7 ⊢
 have e1:(if (n:Int) < (bp:Int) then (n:Int) else (bp:Int))=(bp:Int):=if_neg (by omega)
 (refine go ?_)
 (refine WW.ifB rfl (fun hz5 => ?_) (fun hz5 => ?_))
 ·(refine go ?_)
  simp only [e1]
  (refine go ?_)
  have em:min (List.take ((bp:Int).toNat - 0) (List.drop (0+0) C)).length (n - bp)=min bp (n - bp):=by simp;omega
  refine ⟨(bp+min bp (n - bp),_),(by repeat first | exact subE.nil _ | (apply subE.cons;focus (first | exact rfl | (simp [z6,em];done) | (simp [z6,em];omega)))),⟨gH,gK,?_,?_,by dsimp only;omega,by dsimp only;omega,?_⟩,by dsimp only;omega⟩
  all_goals dsimp only
  all_goals try rw [em]
  ·simp [g3];omega
  ·intro j hj
   by_cases hjb:j < bp
   ·rw [List.append_assoc,List.getElem?_append_left (by simp;omega),List.getElem?_take_of_lt (by omega)]
    exact g4 j hjb
   ·have hlen:(List.take (0+bp) C).length=bp:=by simp;omega
    rw [List.append_assoc,List.getElem?_append_right (by omega),hlen,List.getElem?_append_left (by simp;omega),List.getElem?_take_of_lt (by omega)]
    rw [show ((bp:Int).toNat - 0)=bp by omega,List.getElem?_take_of_lt (by omega),Nat.add_zero,List.drop_zero,g4 (j - bp) (by omega)]
    have:j % l.length=(j - bp) % l.length:=by
     obtain ⟨t,ht⟩:=Nat.dvd_of_mod_eq_zero g7
     have:j=(j - bp)+l.length*t:=by omega
     rw [this,Nat.add_mul_mod_self_left]
     congr 1
     omega
    rw [this]
  ·by_cases hb:bp≤n - bp
   ·rw [Nat.min_eq_left hb]
    obtain ⟨t,ht⟩:=Nat.dvd_of_mod_eq_zero g7
    rw [ht,← Nat.mul_add]
    exact Nat.mul_mod_right _ _
   ·rw [show bp+min bp (n - bp)=l.length*k by omega]
    exact Nat.mul_mod_right _ _
 ·(refine go ?_)
  refine WW.ret (PureQ.finD ?_)
  have:bp=n:=by omega
  subst this
  have hC:C=(rep l bp).map encB:=by
   refine List.ext_getElem? fun j => ?_
   by_cases hj:j < bp
   ·rw [g4 j hj];simp [rep,hj]
   ·rw [List.getElem?_eq_none (by omega),List.getElem?_eq_none (by simp [rep];omega)]
  exact zb5 g1 (Nat.le_refl _) g3 hC (by rw [hC];exact flatB _)
end Go.Proofs.YthblcmnhiccnhaaGreat


namespace Go.Proofs.YthblcmnhiccnhaaGreat
open Go Go.Abs

theorem zee {u:Nat→Prop}(x:Iss):∀ v∈encI x,Clo u v:=by
 intro v hv
 simp only [encI,List.mem_cons,List.not_mem_nil,or_false] at hv
 rcases hv with rfl | rfl | rfl | rfl | rfl | rfl | rfl | rfl | rfl | rfl <;> first | exact .int _ _ | exact clo_imm (flatB _)
theorem z9m {u:Nat→Prop}(b:Bs)(t:Pr):∀ v∈encS b t,Clo u v:=by
 intro v hv
 simp only [encS,List.mem_cons,List.not_mem_nil,or_false] at hv
 rcases hv with rfl | rfl | rfl <;> first | exact .int _ _ | exact clo_imm (flatB _)
def encM (S:List Bs):List (AV×AV):=S.zipIdx.map fun p=>(.str p.1,.int .u64 (p.2+1:Nat))
structure OrAt (h:AHeap)(o t s g:Nat)(L:List Iss)(S:List Bs):Prop where
 obj:h.get o=some (.mem 2 [[.app t g 10 (L.map encI),.map s]])
 tok:h.get t=some (.tail g L.length)
 sums:h.get s=some (.map (encM S))

theorem zhc (x:Iss)(hx:x.head.length≤1000000∧x.data.length≤1000000∧x.out.length≤1000000)(h:AHeap):AE Tryz.prog 177 [.agg (encI x)] h (.agg (encI x)) h:=by
 refine AE.pureW zh7 (by simp) ?_
 unfold za5;dsimp only [qQ,qR,qM,qG]
 (refine go ?_)
 refine DW.callS rfl gM gSL rfl (zp x.head hx.1 _) ?_
 (refine go ?_)
 refine DW.callS rfl gM gSL rfl (zp x.data hx.2.1 _) ?_
 (refine go ?_)
 refine DW.callS rfl gM gSL rfl (zp x.out hx.2.2 _) ?_
 (refine go ?_)
 refine WW.ret (PureQ.finD ?_)
 exact .clo _ (.agg _ (zee x))

def sealB (N:Int)(n:Nat):Bs:=rep (putB N 8) n
theorem zr1 (l:Bs){n m:Nat}(hn:n≤m):(rep l m).take n=rep l n:=by
 simp [rep,← List.map_take,List.take_range,Nat.min_eq_left hn]
def ones:Int:=18446744073709551615
theorem zhd (l:Bs)(n:Nat):(rep l n).length=n:=by simp [rep]
def newI (N:Nat)(k:Pr)(n:Nn)(head data:Bs):Iss:=⟨k,n,head,data,sealB (N:Int) data.length,(ones,(N:Int))⟩
theorem z9n (v:Int):(putB v 8).length=8:=by simp [putB]

set_option maxHeartbeats 4000000 in
theorem zhe {h:AHeap}{o t s g:Nat}{L:List Iss}{S:List Bs}(hO:OrAt h o t s g L S)(hL:L.length≤1000000)(k:Pr)(n:Nn)(head data:Bs)(hh:head.length≤4000)(hd:data.length≤4000) :
  AE Tryz.prog 119 [.ptr o 0 0,.agg (encP k),.agg (encN n),.imm 1 (head.map encB),.imm 1 (data.map encB)] h
   (.tup [.agg (encS (newI (L.length+1) k n head data).out (newI (L.length+1) k n head data).tag),.bool true])
   ((h.set t (some (.tail g (L.length+1)))).set o (some (.mem 2 [[.app t g 10 ((L++[newI (L.length+1) k n head data]).map encI),.map s]]))):=by
 obtain ⟨q1,q2,q3⟩:=hO
 refine AE.wf fun hwf => ?_
 have ho:=hwf _ _ q1
 have ht:=hwf _ _ q2
 have hne:o≠t:=fun e=>by subst e;rw [q1] at q2;cases q2
 refine AE.effW z8d (by simp) ?_ ?_
 ·refine Ext.set (Ext.set (x := .tail _ _) Ext.refl (Nm.old q2) trivial) (Nm.old q1) ?_
  intro x hx v hv
  simp only [List.mem_singleton] at hx
  subst hx
  simp only [List.mem_cons,List.not_mem_nil,or_false] at hv
  rcases hv with rfl | rfl
  ·exact .app _ _ _ _ (Nm.old q2) fun x hx v hv=>by
    obtain ⟨i,_,rfl⟩:=List.mem_map.1 hx
    exact zee i v hv
  ·exact .map _ (Nm.old q3)
 unfold z3y;dsimp only [qQ,qR,qM,qG]
 (refine go ?_)
 (apply WL.orB;exact rfl;exact rfl;exact rfl;exact BP.of;intro hz1)
 ·(repeat first | (apply GW.goS;exact Stp.auto) | apply GW.nil | exact rfl)
 (refine go ?_)
 (refine WW.ifB rfl (fun hz2 => ?_) (fun hz2 => ?_))
 ·simp at hz2;omega
 (refine go ?_)
 refine WL.call rfl gM gSL (zu (L.length+1:Nat) 8 _ (by decide)) ?_
 (refine go ?_)
 refine WL.call rfl gM gSL (zfq (putB (L.length+1:Nat) 8) (data.length / 8+1) (by rw [z9n];decide) (by omega) (by rw [z9n];omega) _) ?_
 rw [z9n]
 (refine go ?_)
 refine WL.auto (Stp.slcI (j:=data.length) rfl (by first | exact z1v | exact zo rfl rfl | exact zo rfl (Int.toNat_of_nonneg (by omega)).symm) (by first | exact z1v | exact zo rfl rfl | exact zo rfl (Int.toNat_of_nonneg (by omega)).symm) (Nat.zero_le _) (by simp only [List.length_map,zhd];omega) gM) ?_
 rw [List.drop_zero,← List.map_take,zr1 _ (by omega)]
 (refine go ?_)
 refine WW.dregX [11,12] [0,1,3,5] [] gN (by decide +kernel) ?_
 (refine go ?_)
 refine DW.callSF (by repeat first | exact PhiW.refl | refine PhiW.put (by omega) ?_ | refine PhiW.setW (by simp) ?_ | refine PhiW.setN (by omega) ?_) rfl gM gSL (fun h2 hp2=>zp head (by omega) h2) ?_
 (refine go ?_)
 refine DW.callSF (by repeat first | exact PhiW.refl | refine PhiW.put (by omega) ?_ | refine PhiW.setW (by simp) ?_ | refine PhiW.setN (by omega) ?_) rfl gM gSL (fun h2 hp2=>zp data (by omega) h2) ?_
 (refine go ?_)
 refine WL.call rfl gM gSL (zhc (newI (L.length+1) k n head data) ⟨by simp only [newI];omega,by simp only [newI];omega,by simp only [newI,sealB,zhd];omega⟩ _) ?_
 (refine go ?_)
 refine WW.ret (EffQ.finD ?_ ?_)
 ·refine ⟨gLE,fun id hu => ?_⟩;have hlt:id < AHeap.next h:=hu.1;simp only [zn,zc];(repeat' split) <;> first | rfl | omega | (simp [encI,newI,sealB,ones];done)
 ·refine .clo _ (.tup _ fun v hv => ?_)
  simp only [List.mem_cons,List.not_mem_nil,or_false] at hv
  rcases hv with rfl | rfl
  ·exact .agg _ (z9m _ _)
  ·exact .bool _

def newO (h:AHeap):AHeap:=(((h.put h.next (.map [])).put (h.next+1) (.mem 2 [[.nils,.map h.next]])).put (h.next+2) (.tail 0 0)).set (h.next+1) (some (.mem 2 [[.app (h.next+2) 0 10 [],.map h.next]]))
theorem zsy (h:AHeap):OrAt (newO h) (h.next+1) (h.next+2) h.next 0 [] [] :=
 ⟨za,z1 (by omega) get_put_same,z1 (by omega) (z3 (by omega) (z3 (by omega) get_put_same))⟩
theorem zbl (h:AHeap):(newO h).next=h.next+3:=z2l (z2k (z2k (z2k rfl)))
theorem zky (h:AHeap){id:Nat}(hid:id < h.next):(newO h).get id=h.get id:=by
 simp only [newO,zn,zc]
 rw [if_neg (by omega),if_neg (by omega),if_neg (by omega),if_neg (by omega)]
theorem zji (h:AHeap):AE Tryz.prog 118 [] h (.ptr (h.next+1) 0 0) (newO h):=by
 refine AC.introW zjc (by simp) ?_
 unfold zbd;dsimp only [qQ,qR,qM,qG]
 (refine go ?_)
 refine WW.cvt (Cvt.adoptM 10 (i:=0) (j:=0) gH rfl rfl gN) ?_
 exact WW.ret ⟨.inl rfl,_,gRES,rfl,rfl⟩
end Go.Proofs.YthblcmnhiccnhaaGreat


namespace Go.Proofs.YthblcmnhiccnhaaGreat
open Go Go.Abs

def isI (k:Pr)(n:Nn)(head b:Bs)(tg:Pr)(x:Iss):Bool:=x.key==k&&x.n==n&&x.tag==tg&&x.head==head&&x.out==b
def openO (L:List Iss)(k:Pr)(n:Nn)(head b:Bs)(tg:Pr):Option Bs:=(L.find? (isI k n head b tg)).map (·.data)
theorem z8k {h h1:AHeap}{a b:Bs}(hab:a=b):Fz h h1 (.imm 1 (a.map encB)) (.imm 1 (b.map encB)):=zkm (by rw [hab]) (flatB _)
theorem zpn (s t:Nn):(s.1==t.1&&(s.2.1==t.2.1&&(s.2.2==t.2.2&&true)))=(s==t):=by
 rw [Bool.and_true];rfl
theorem zpo {α:Type}{p:α→Bool}{L:List α}{i:Nat}(hi:i < L.length)(hp:p L[i]=false):(L.drop i).find? p=(L.drop (i+1)).find? p:=by
 rw [List.drop_eq_getElem_cons hi,List.find?_cons,hp]
theorem zhf {h:AHeap}{o t s g:Nat}{L:List Iss}{S:List Bs}(hO:OrAt h o t s g L S)(hL:L.length≤1000000)(hd:∀ x∈L,x.data.length≤1000000)(k:Pr)(n:Nn)(head b:Bs)(tg:Pr) :
  AE Tryz.prog 120 [.ptr o 0 0,.agg (encP k),.agg (encN n),.imm 1 (head.map encB),.agg (encS b tg)] h
   (.tup [.imm 1 (((openO L k n head b tg).getD []).map encB),.bool (openO L k n head b tg).isSome]) h:=by
 obtain ⟨q1,q2,q3⟩:=hO
 refine AE.wf fun hwf => ?_
 have ho:=hwf _ _ q1
 refine AE.pureW z8e (by simp) ?_
 unfold z3z;dsimp only [qQ,qR,qM,qG]
 (refine go ?_)
 refine WW.loopE (fun (i:Nat)=>[(3,some (.imm 1 (head.map encB))),(6,some (.ptr h.next 0 0)),(7,some (.ptr (h.next+1) 0 0)),(9,some (.ptr (h.next+2) 0 0)),(19,some (.app t g 10 (L.map encI))),(20,some (.int .i64 L.length)),(21,some (.int .i64 i))])
  (fun i h'=>h'.get h.next=some (.mem 2 [encP k])∧h'.get (h.next+1)=some (.mem 3 [encN n])∧h'.get (h.next+2)=some (.mem 3 [encS b tg])∧h.next+3≤h'.next∧Keeps h h'∧i≤L.length∧openO L k n head b tg=openO (L.drop i) k n head b tg) (fun i=>L.length - i) 0 gSUB
  ⟨gH,gH,gH,(leN gN (by omega)),gK,Nat.zero_le _,by simp⟩ ?_
 rintro i h' ⟨g1,g2,g3,g4,g5,g6,g7⟩
 (refine go ?_)
 (refine WW.ifB rfl (fun hz1 => ?_) (fun hz1 => ?_))
 ·have hi:i < L.length:=by omega
  (refine go ?_)
  (apply WL.andB;exact rfl;exact rfl;exact rfl;exact BP.of;intro hz2)
  ·(repeat first | (apply GW.goS;exact Stp.auto) | apply GW.nil | exact rfl)
  (refine go ?_)
  (apply WL.andB;exact rfl;exact rfl;exact rfl;exact BP.of;intro hz3)
  ·(repeat first | (apply GW.goS;exact Stp.auto) | apply GW.nil | exact rfl)
  (refine go ?_)
  (apply WL.andB;exact rfl;exact rfl;exact rfl;exact BP.of;intro hz4)
  ·(repeat first | (apply GW.goS;exact Stp.auto) | apply GW.nil | exact rfl)
   refine GW.call rfl gM gSL (z4p _ _ _) ?_
   (repeat first | (apply GW.goS;exact Stp.auto) | apply GW.nil | exact rfl)
  (refine go ?_)
  (apply WL.andB;exact rfl;exact rfl;exact rfl;exact BP.of;intro hz5)
  ·(repeat first | (apply GW.goS;exact Stp.auto) | apply GW.nil | exact rfl)
   refine GW.call rfl gM gSL (z4p _ _ _) ?_
   (repeat first | (apply GW.goS;exact Stp.auto) | apply GW.nil | exact rfl)
  (refine go ?_)
  (refine WW.ifB rfl (fun hz6 => ?_) (fun hz6 => ?_))
  ·have hm:isI k n head b tg L[i]=true:=by rw [isI,← z6i,← zpn,← z6i];exact hz6
   (refine go ?_)
   refine WL.call rfl gM gSL (zp L[i].data (hd _ (List.getElem_mem hi)) _) ?_
   (refine go ?_)
   refine WW.ret (PureQ.finD ?_)
   have:openO L k n head b tg=some L[i].data:=by
    rw [g7,openO,List.drop_eq_getElem_cons hi,List.find?_cons,hm];rfl
   rw [this]
   exact Fz.tup2 (z8k rfl) (fz_b rfl)
  ·have hm:isI k n head b tg L[i]=false:=by rw [isI,← z6i,← zpn,← z6i];exact hz6
   (refine go ?_)
   refine ⟨i+1,gSUB,⟨gH,gH,gH,(leN gN (by omega)),gK,by omega,?_⟩,by omega⟩
   rw [g7,openO,openO,zpo hi hm]
 ·have hi:i=L.length:=by omega
  subst hi
  (refine go ?_)
  refine WW.ret (PureQ.finD ?_)
  have:openO L k n head b tg=none:=by rw [g7];simp [openO]
  rw [this]
  exact Fz.tup2 (.nil _) (fz_b rfl)

def idxS (k:Bs):List Bs→Option Nat
 | [] => none
 | s :: S => if k = s then some 0 else (idxS k S).map (· + 1)
def sumN (S:List Bs)(k:Bs):Nat:=(idxS k S).getD S.length+1
def sumS (S:List Bs)(k:Bs):List Bs:=if (idxS k S).isSome then S else S++[k]
theorem zij (k:Bs):∀ (S:List Bs) (i j:Nat),findA (.str k) ((S.zipIdx j).map fun p=>(AV.str p.1,AV.int .u64 (p.2+1:Nat))) i=some ((idxS k S).map fun m=>(i+m,AV.int .u64 (j+m+1:Nat)))
 | [], i, j => rfl
 | s :: S, i, j => by
  simp only [List.zipIdx_cons,List.map_cons,findA,sameK,idxS]
  by_cases hk:k=s
  ·subst hk;simp
  ·have h1:(k==s)=false:=by simp [hk]
   rw [h1,if_neg hk]
   simp only
   rw [zij k S (i+1) (j+1)]
   cases idxS k S with
   | none => rfl
   | some m => simp; omega
theorem zr2 (S:List Bs)(k:Bs):encM (S++[k])=encM S++[(.str k,.int .u64 (S.length+1:Nat))]:=by
 simp [encM,List.zipIdx_append]
def eees:Int:=17216961135462248174
theorem zef {u:Nat→Prop}(S:List Bs):∀ kv∈encM S,Clo u kv.1∧Clo u kv.2:=by
 intro kv hkv
 obtain ⟨p,_,rfl⟩:=List.mem_map.1 hkv
 exact ⟨.str _,.int _ _⟩
theorem zjj {h:AHeap}{o t s g:Nat}{L:List Iss}{S:List Bs}(hO:OrAt h o t s g L S)(hS:S.length≤1000000)(rows:List Bs)(hr1:rows.length≤1000000)(hr2:rows.flatten.length≤1000000) :
  AE Tryz.prog 121 [.ptr o 0 0,.imm 1 (rows.map encR)] h (.agg (encP (eees,(sumN S rows.flatten:Int)))) (h.set s (some (.map (encM (sumS S rows.flatten))))):=by
 obtain ⟨q1,q2,q3⟩:=hO
 refine AE.wf fun hwf => ?_
 have ho:=hwf _ _ q1
 have hs:=hwf _ _ q3
 have hne:o≠s:=fun e=>by subst e;rw [q1] at q3;cases q3
 refine AE.effW z9i (by simp) (Ext.set (x := .map _) Ext.refl (Nm.old q3) (zef _)) ?_
 unfold z4d;dsimp only [qQ,qR,qM,qG]
 generalize hk:rows.flatten=key at *
 (refine go ?_)
 refine WL.call rfl gM gSL (z2c rows hr1 (by rw [hk];omega) _) ?_
 rw [hk]
 (refine go ?_)
 have hf:findA (.str key) (encM S) 0=some ((idxS key S).map fun m=>(0+m,AV.int .u64 (0+m+1:Nat))):=zij key S 0 0
 cases hi:idxS key S with
 | some m =>
  rw [hi] at hf
  have e1:sumS S key=S:=by rw [sumS,hi];rfl
  have e2:sumN S key=m+1:=by rw [sumN,hi];rfl
  rw [e1,e2,z96 q3]
  refine WL.fx1 (FX.look rfl rfl gH trivial hf rfl gM) ?_
  simp only [lookR,Option.map_some,Option.getD_some,Option.isSome_some,if_true]
  (refine go ?_)
  refine WW.ret (EffQ.finD ?_ ?_)
  ·exact gK
  ·refine .clo _ (.agg _ fun v hv => ?_)
   simp only [List.mem_cons,List.not_mem_nil,or_false] at hv
   rcases hv with rfl | rfl <;> exact .int _ _
 | none =>
  rw [hi] at hf
  have e1:sumS S key=S++[key]:=by rw [sumS,hi];rfl
  have e2:sumN S key=S.length+1:=by rw [sumN,hi];rfl
  rw [e1,e2,zr2]
  refine WL.fx1 (FX.look rfl rfl gH trivial hf rfl gM) ?_
  simp only [lookR,Option.map_none,Option.getD_none,Option.isSome_none,if_true]
  have hlen:(encM S).length=S.length:=by simp [encM]
  (refine go ?_)
  refine WL.fx0 (FX.mput rfl rfl rfl gH trivial hf gM) ?_
  (refine go ?_)
  refine WW.ret (EffQ.finD ?_ ?_)
  ·refine ⟨gLE,fun id hu => ?_⟩;have hlt:id < AHeap.next h:=hu.1;simp only [zn,zc];(repeat' split) <;> first | rfl | omega | (simp [putM,hlen];done)
  ·rw [hlen]
   refine .clo _ (.agg _ fun v hv => ?_)
   simp only [List.mem_cons,List.not_mem_nil,or_false] at hv
   rcases hv with rfl | rfl <;> exact .int _ _

end Go.Proofs.YthblcmnhiccnhaaGreat


namespace Go.Abs
open Go

def AHeap.keep (h:AHeap)(k:Nat):AHeap:={ h with next:=h.next+k,gap:=fun j=>h.gap j || (decide (h.next≤j)&&decide (j < h.next+k)) }
theorem zik {h:AHeap}{k id:Nat}{x:Option AObj}(hx:h.get id=x):(h.keep k).get id=x:=hx
theorem z9o {h:AHeap}{k n:Nat}(hn:h.next=n):(h.keep k).next=n+k:=by subst hn;rfl
theorem zbm {h:AHeap}{id n:Nat}{x:AObj}(hl:id < n)(hn:h.next=n):(h.put id x).next=n:=by subst hn;simp [AHeap.put,hl]
theorem Keeps.keep {h h1:AHeap}{k:Nat}(hk:Keeps h h1):Keeps h (h1.keep k):=⟨Nat.le_trans hk.1 (Nat.le_add_right _ _),hk.2⟩

section
variable {P:Program}{N:Nat}{e e':Env}{h h':AHeap}{l:List CI}{Q:Exit→Env→AHeap→Prop}{m:Inj}{w:World}

theorem zbn {k id:Nat}(hu:h.used id):(h.keep k).used id:=by
 obtain ⟨h1,h2⟩:=hu
 refine ⟨by simp only [AHeap.keep];omega,?_⟩
 simp only [AHeap.keep,h2,Bool.false_or,Bool.and_eq_false_iff,decide_eq_false_iff_not]
 omega
theorem zbo (k:Nat):Step m h w m (h.keep k) w :=
 ⟨rfl,rfl,rfl,Nat.le_refl _,fun _ cc _ _ hb _=>⟨cc,hb,rfl⟩,fun _ _ hf=>⟨rfl,hf⟩,fun _ _ _ hc hn=>⟨hc,hn⟩,fun _ hu=>zbn hu,fun _ x _ hg=>⟨x,hg,fun _=>rfl,Compat.refl x⟩⟩
theorem HR.keep (hr:HR m h w)(k:Nat):HR m (h.keep k) w :=
 ⟨fun id hg=>by
   simp only [AHeap.keep,Bool.or_eq_true,Bool.and_eq_true,decide_eq_true_eq] at hg ⊢
   rcases hg with hg | hg
   ·have:=hr.gapl id hg;omega
   ·exact hg.2,
  fun id x hg=>zbn (hr.live id x hg),hr.inj,fun id x hg=>(hr.obj id x hg).step (zbo k) rfl fun _ _ _=>rfl⟩
theorem Cvt.keep (k:Nat):Cvt e h e (h.keep k):=fun _ m _ _ hr he=>⟨m,hr.keep k,he.step (zbo k),zbo k⟩

theorem FX.ofN {nm:Nat}{d:Option Nat}{i:Ins}{g:Option (Nat×Bool)}{r:Option AV}{f:Eff}(hp:i.plain=true)(hg:met e g)
  (hx:∀ (o:Oper),zb P N o=some i→∀ e2,(∀ s∈z16 i,lk s e2=lk s e)→∀ (m:Inj) (w:World) (a:Act),HR m h w→ER N m h w e2 a→OpOK P o a m h w nm r f):FX P N ⟨d,i,g⟩ e h r (f.on nm h):=by
 intro ops j o ho hc e2 hs m w a K Q hr he hk
 have hraw:=z5w hc hp
 rcases zx hc with ⟨hb1,hb2⟩ | ⟨hd,hdst,_,hgd⟩
 ·have hb:i = .bad:=hb1
  subst hb;cases hp
 ·obtain ⟨w1,w2⟩:=zl he hgd
  have hi:∀ s∈z16 i,lk s e2=lk s e:=fun s h=>hs s (by unfold zk;split <;> simp [h])
  have hw:Region.wanted o (yielded ops a.tmps)=true:=by
   cases g with
   | none => exact w1 rfl
   | some sb =>
    obtain ⟨s,b⟩:=sb
    have hl:lk s e2=some (.bool b):=(hs s (by simp [zk])).trans hg
    rw [w2 s b b rfl hl];simp
  simp only [wpOp,ho]
  rw [if_pos hw]
  left
  obtain ⟨m',w',hr',st,hres⟩:=hx o hraw e2 hi m w a hr he
  have hd':d=o.dst:=hd
  unfold Oper.wp
  cases r with
  | some v =>
   obtain ⟨cv,hrun,hv⟩:=hres
   rw [hrun,Oper.upon_value]
   refine hk m' w' _ hr' ?_ st
   show ER N m' _ w' (putR d (some v) e2) _
   rw [hd']
   exact (he.step st).putR hdst hv
  | none =>
   rw [hres,Oper.upon_skip]
   refine hk m' w' _ hr' ?_ st
   show ER N m' _ w' (putR d none e2) _
   rw [hd']
   exact (he.step st).skipR _ _

theorem FX.allocN {d:Nat}{z:List AV}{g:Option (Nat×Bool)}{nm:Nat}(hf:¬ h.used nm)(hg:met e g):FX P N ⟨some d,.alloc z,g⟩ e h (some (.ptr nm 0 0)) (h.put nm (.mem z.length [z])) :=
 FX.ofN (r:=some (.ptr nm 0 0)) (f := .new (.mem z.length [z])) rfl hg fun o hc e2 _ m w a hr he=>ze2 hr hf he hc (by simp [evalI])

inductive Up
 | put (nm : Nat) (x : AObj)
 | set (id : Nat) (x : Option AObj)
def Up.ap (h:AHeap):Up→AHeap
 | .put nm x => h.put nm x
 | .set id x => h.set id x
def Up.id:Up→Nat
 | .put nm _ => nm
 | .set id _ => id
def Up.isSet:Up→Bool
 | .put _ _ => false
 | .set _ _ => true
def aps (h:AHeap)(us:List Up):AHeap:=us.foldl Up.ap h
theorem zeg {h:AHeap}{u:Up}{us:List Up}:aps h (u::us)=aps (u.ap h) us:=rfl

theorem zr3 {h:AHeap}{nm:Nat}{x:AObj}:(h.put nm x).next=if nm < h.next then h.next else nm+1:=rfl
theorem zhg {h:AHeap}(u:Up):h.next≤(u.ap h).next:=by
 cases u with
 | put nm x => simp only [Up.ap, AHeap.put]; split <;> omega
 | set id x => exact Nat.le_refl _
theorem zkz:∀ {h:AHeap} (us:List Up),h.next≤(aps h us).next
 | h, [] => Nat.le_refl _
 | h, u :: us => Nat.le_trans (zhg u) (zkz us)
def Sim (n k:Nat)(h h2:AHeap):Prop:=h2.next=h.next∧∀ id,¬ (n≤id∧id < n+k)→h2.get id=h.get id
theorem Sim.refl {n k:Nat}{h:AHeap}:Sim n k h h:=⟨rfl,fun _ _=>rfl⟩
theorem Sim.ap {n k:Nat}{h h2:AHeap}(hs:Sim n k h h2)(u:Up):Sim n k (u.ap h) (u.ap h2):=by
 obtain ⟨h1,h3⟩:=hs
 cases u with
 | put nm x => exact ⟨by simp only [Up.ap, AHeap.put, h1], fun id hi => by simp only [Up.ap, AHeap.put]; split <;> first | rfl | exact h3 id hi⟩
 | set nm x => exact ⟨h1, fun id hi => by simp only [Up.ap, AHeap.set]; split <;> first | rfl | exact h3 id hi⟩
theorem Sim.aps {n k:Nat}:∀ {h h2:AHeap} (us:List Up),Sim n k h h2→Sim n k (aps h us) (aps h2 us)
 | _, _, [], hs => hs
 | _, _, u :: us, hs => Sim.aps us (hs.ap u)
theorem Sim.trans {n k:Nat}{h1 h2 h3:AHeap}(a:Sim n k h1 h2)(b:Sim n k h2 h3):Sim n k h1 h3 :=
 ⟨b.1.trans a.1,fun id hi=>(b.2 id hi).trans (a.2 id hi)⟩
theorem Sim.symm {n k:Nat}{h1 h2:AHeap}(a:Sim n k h1 h2):Sim n k h2 h1:=⟨a.1.symm,fun id hi=>(a.2 id hi).symm⟩
theorem Sim.kept {n k a:Nat}{h:AHeap}{x:AObj}(ha:n≤a∧a < n+k)(hn:n+k≤h.next):Sim n k h (h.put a x):=by
 refine ⟨?_,fun id hi => ?_⟩
 ·simp only [AHeap.put];rw [if_pos (by omega)]
 ·simp only [AHeap.put];rw [if_neg (by intro e;subst e;exact hi ha)]
theorem zpp {a:Nat}{x:AObj}{u:Up}{h:AHeap}(hne:u.id≠a)(hn:a < h.next):u.ap (h.put a x)=(u.ap h).put a x:=by
 cases u with
 | put nm y =>
  have hne:nm≠a:=hne
  have h1:=zhg (h:=h) (.put nm y)
  refine zea (fun j => ?_) ?_ fun j => ?_
  ·simp only [Up.ap,AHeap.put];split <;> split <;> first | rfl | omega
  ·simp only [Up.ap,zr3]
   repeat' split
   all_goals omega
  ·simp only [Up.ap,AHeap.put];split <;> split <;> first | rfl | omega
 | set nm y =>
  have hne:nm≠a:=hne
  refine zea (fun j => ?_) rfl fun j=>rfl
  simp only [Up.ap,AHeap.put,AHeap.set];split <;> split <;> first | rfl | omega
theorem zhh {a:Nat}{x:AObj}:∀ {us:List Up} {h:AHeap},(∀ u∈us,u.id≠a)→a < h.next→aps (h.put a x) us=(aps h us).put a x
 | [], h, _, _ => rfl
 | u :: us, h, hu, hn => by
  rw [zeg,zeg,zpp (hu u (by simp)) hn]
  exact zhh (fun v hv=>hu v (by simp [hv])) (Nat.lt_of_lt_of_le hn (zhg u))
theorem znj {a:Nat}:∀ {us:List Up} {h:AHeap},(∀ u∈us,u.isSet=true∨u.id≠a)→h.gap a=true→(aps h us).gap a=true
 | [], h, _, hg => hg
 | u :: us, h, hu, hg => by
  rw [zeg]
  refine znj (us:=us) (fun v hv=>hu v (by simp [hv])) ?_
  have hne:=hu u (by simp)
  cases u with
  | put nm y =>
   have hne:nm≠a:=by
    rcases hne with h1 | h1
    ·cases h1
    ·exact h1
   simp only [Up.ap,AHeap.put];rw [if_neg (Ne.symm hne)];exact hg
  | set nm y => exact hg

def hA (us:Nat→List Up)(h:AHeap)(D:Nat→Bool):Nat→AHeap
 | 0 => h
 | j + 1 => if D j then aps (hA us h D j) (us j) else hA us h D j
theorem hA_le {us:Nat→List Up}{D:Nat→Bool}:∀ n,h.next≤(hA us h D n).next
 | 0 => Nat.le_refl _
 | n + 1 => by
  simp only [hA];split
  ·exact Nat.le_trans (hA_le n) (zkz _)
  ·exact hA_le n
theorem zl0 {us:Nat→List Up}{D:Nat→Bool}{Φ:AHeap→Prop}(h0:Φ h){n:Nat}(hp:∀ j,j < n→∀ h2,Φ h2→Φ (aps h2 (us j))):∀ i,i≤n→Φ (hA us h D i)
 | 0, _ => h0
 | i + 1, hi => by
  simp only [hA];split
  ·exact hp i (by omega) _ (zl0 h0 hp i (by omega))
  ·exact zl0 h0 hp i (by omega)
theorem zcq {us:Nat→List Up}{D:Nat→Bool}{i:Nat}:∀ n,i≤n→(∀ k,i≤k→k < n→D k=true→us k=[])→hA us h D n=hA us h D i
  | 0, hi, _ => by have : i = 0 := by omega
                   subst this;rfl
  | n + 1, hi, hk => by
    rcases Nat.eq_or_lt_of_le hi with rfl | hlt
    · rfl
    · rw [← zcq n (by omega) fun k h1 h2=>hk k h1 (by omega)]
      simp only [hA]
      split
      · rename_i hd
        rw [hk n (by omega) (by omega) hd];rfl
      · rfl
theorem z8l {us:Nat→List Up}{D D':Nat→Bool}:∀ i,(∀ k,k < i→us k≠[]→D k=D' k)→hA us h D i=hA us h D' i
 | 0, _ => rfl
 | i + 1, hk => by
  simp only [hA]
  rw [z8l i fun k h1=>hk k (by omega)]
  by_cases he:us i=[]
  ·rw [he];split <;> split <;> rfl
  ·rw [hk i (by omega) he]
theorem zpq {us:Nat→List Up}{D D':Nat→Bool}{i m:Nat}(hm:m≤h.next)(hi:D i=false)(hD:∀ k,D' k=if k=i then true else D k):∀ n,i < n→(∀ k,i < k→k < n→D k=true→∀ h2:AHeap,m≤h2.next→aps (aps h2 (us i)) (us k)=aps (aps h2 (us k)) (us i))→hA us h D' n=aps (hA us h D n) (us i)
 | 0, hlt, _ => by omega
 | n + 1, hlt, hc => by
  by_cases e:n=i
  ·subst e
   have h1:hA us h D' n=hA us h D n:=z8l n fun k hk _=>by rw [hD,if_neg (by omega)]
   simp only [hA]
   rw [hD,if_pos rfl,if_pos rfl,hi,h1];rfl
  ·have ih:=zpq hm hi hD n (by omega) fun k h1 h2=>hc k h1 (by omega)
   simp only [hA]
   rw [hD,if_neg e,ih]
   split
   ·rename_i hd
    exact hc n (by omega) (by omega) hd _ (Nat.le_trans hm (hA_le n))
   ·rfl
theorem zl1 {us:Nat→List Up}{D:Nat→Bool}{a:Nat}(h0:h.gap a=true){n:Nat}(hk:∀ k,k < n→D k=true→∀ u∈us k,u.isSet=true∨u.id≠a):∀ i,i≤n→(hA us h D i).gap a=true
 | 0, _ => h0
 | i + 1, hi => by
  simp only [hA];split
  ·rename_i hd
   exact znj (hk i (by omega) hd) (zl1 h0 hk i (by omega))
  ·exact zl1 h0 hk i (by omega)
theorem zpr {us:Nat→List Up}{D D':Nat→Bool}{n k:Nat}(hn:n+k≤h.next):∀ i,(∀ j,j < i→us j=[]∨D j=D' j∨∃ a x,(n≤a∧a < n+k)∧us j=[.put a x])→Sim n k (hA us h D i) (hA us h D' i)
 | 0, _ => Sim.refl
 | i + 1, hj => by
  have ih:=zpr hn i fun j h1=>hj j (by omega)
  have l1:=hA_le (h:=h) (us:=us) (D:=D) i
  have l2:=hA_le (h:=h) (us:=us) (D:=D') i
  simp only [hA]
  rcases hj i (by omega) with h1 | h1 | ⟨a,x,ha,h1⟩
  ·rw [h1];split <;> split <;> exact ih
  ·rw [h1];split
   ·exact ih.aps _
   ·exact ih
  ·rw [h1]
   have s1:Sim n k (hA us h D i) (aps (hA us h D i) [.put a x]):=Sim.kept ha (by omega)
   have s2:Sim n k (hA us h D' i) (aps (hA us h D' i) [.put a x]):=Sim.kept ha (by omega)
   split <;> split
   ·exact (s1.symm.trans ih).trans s2
   ·exact s1.symm.trans ih
   ·exact ih.trans s2
   ·exact ih

end
end Go.Abs

namespace Go.Abs
open Go

def heapA (l:List CI)(fs al:List Nat)(j:Nat):Bool := !(free0 (l.getD j default).i || fs.contains j || al.contains j)
def z1f (l:List CI)(al ws rs fs:List Nat)(i j:Nat):Bool :=
 (zk (l.getD j default)).any (dslot (l.getD i default)) || (zk (l.getD i default)).any (dslot (l.getD j default)) ||
 ((l.getD i default).d.isSome&&(l.getD i default).d==(l.getD j default).d) ||
 ((ws.contains i || ws.contains j)&&heapA l fs al i&&heapA l fs al j) ||
 (al.contains i&&heapA l fs al j && !rs.contains j) || (al.contains j&&heapA l fs al i && !rs.contains i)
def chkA (l:List CI)(es:List (List Nat))(al ws rs fs:List Nat):Bool :=
 es.length==l.length&&(List.range l.length).all fun j=>(es.getD j []).all (fun k=>k < j)&&(List.range j).all fun i => !z1f l al ws rs fs i j || ((ancs es []).getD j 0).testBit i

inductive DA (P:Program) (N:Nat) (Φ:AHeap→Prop) (n0:Nat) (al ws rs fs:List Nat) (K:Env→AHeap→Prop):Nat→List CI→Env→AHeap→Prop
 | nil {j : Nat} {e e' : Env} {h : AHeap} (hs : subE e' e) (hk : K e' h) : DA P N Φ n0 al ws rs fs K j [] e h
 | fx {j : Nat} {c : CI} {l : List CI} {e : Env} {h : AHeap} {r : Option AV} (us : List Up) (hx : al.contains j = false → FX P N c e h r (aps h us)) (h0 : free0 c.i = true → al.contains j = true ∨ us = [] ∧ ∀ h2, FX P N c e h2 r h2)
   (hw:ws.contains j=false→al.contains j=false→us=[]) (ha:al.contains j=true→∃ x,us=[.put (n0+al.idxOf j) x]∧∀ h2:AHeap,¬ h2.used (n0+al.idxOf j)→FX P N c e h2 r (aps h2 us))
   (hrs:rs.contains j=true→∀ h2,Sim n0 al.length h h2→FX P N c e h2 r (aps h2 us)) (hu:al.contains j=false→(∀ u∈us,u.isSet=true∨¬ (n0≤u.id∧u.id < n0+al.length))∧(rs.contains j=true→∀ u∈us,¬ (n0≤u.id∧u.id < n0+al.length)))
   (hp:∀ h2,Φ h2→Φ (aps h2 us)) (hf:fs.contains j=true→us=[]∧∀ h2,Φ h2→FX P N c e h2 r h2)
   (k:DA P N Φ n0 al ws rs fs K (j+1) l (putR c.d r e) (aps h us)):DA P N Φ n0 al ws rs fs K j (c::l) e h

section
variable {P:Program}{N:Nat}{e:Env}{h:AHeap}{Φ:AHeap→Prop}{n0:Nat}{al ws rs fs:List Nat}{K:Env→AHeap→Prop}{l:List CI}{es:List (List Nat)}

structure TrA (P:Program)(N:Nat)(Φ:AHeap→Prop)(n0:Nat)(al ws rs fs:List Nat)(c:Nat→CI)(ee:Nat→Env)(hh:Nat→AHeap)(rr:Nat→Option AV)(us:Nat→List Up)(j:Nat):Prop where
 fx:al.contains j=false→FX P N (c j) (ee j) (hh j) (rr j) (aps (hh j) (us j))
 zero:free0 (c j).i=true→al.contains j=true∨us j=[]∧∀ h2,FX P N (c j) (ee j) h2 (rr j) h2
 keep:ws.contains j=false→al.contains j=false→us j=[]
 new:al.contains j=true→∃ x,us j=[.put (n0+al.idxOf j) x]∧∀ h2:AHeap,¬ h2.used (n0+al.idxOf j)→FX P N (c j) (ee j) h2 (rr j) (aps h2 (us j))
 rob:rs.contains j=true→∀ h2,Sim n0 al.length (hh j) h2→FX P N (c j) (ee j) h2 (rr j) (aps h2 (us j))
 ids:al.contains j=false→(∀ u∈us j,u.isSet=true∨¬ (n0≤u.id∧u.id < n0+al.length))∧(rs.contains j=true→∀ u∈us j,¬ (n0≤u.id∧u.id < n0+al.length))
 phi:∀ h2,Φ h2→Φ (aps h2 (us j))
 free:fs.contains j=true→us j=[]∧∀ h2,Φ h2→FX P N (c j) (ee j) h2 (rr j) h2
 env:ee (j+1)=putR (c j).d (rr j) (ee j)
 heap:hh (j+1)=aps (hh j) (us j)

theorem DA.trace:∀ {j:Nat} {l:List CI} {e:Env} {h:AHeap},DA P N Φ n0 al ws rs fs K j l e h →
  ∃ (ee:Nat→Env) (hh:Nat→AHeap) (rr:Nat→Option AV) (us:Nat→List Up),ee j=e∧hh j=h∧(∃ e',subE e' (ee (j+l.length))∧K e' (hh (j+l.length)))∧∀ i,j≤i→i < j+l.length→TrA P N Φ n0 al ws rs fs (fun k=>l.getD (k - j) default) ee hh rr us i:=by
 intro j l e h hd
 induction hd with
 | nil hs hk => exact ⟨fun _ => _, fun _ => _, fun _ => none, fun _ => [], rfl, rfl, ⟨_, hs, hk⟩, fun i h1 h2 => by simp at h2; omega⟩
 | @fx j c l e h r u hx h0 hw ha hrs hu hp hf k ih =>
  obtain ⟨ee,hh,rr,us,q1,q2,q3,q4⟩:=ih
  refine ⟨fun i=>if i=j then e else ee i,fun i=>if i=j then h else hh i,fun i=>if i=j then r else rr i,fun i=>if i=j then u else us i,by simp,by simp,?_,fun i h1 h2 => ?_⟩
  ·have hne:¬ (j+1+l.length=j):=by omega
   have:j+(c::l).length=j+1+l.length:=by simp;omega
   simp only [this,hne,if_false]
   exact q3
  ·rcases Nat.eq_or_lt_of_le h1 with rfl | hlt
   ·have e1:((c::l).getD (j - j) default)=c:=by simp
    have e2:¬ (j+1=j):=by omega
    exact {
     fx:=by simp only [e1,if_true];exact hx
     zero:=by simp only [e1,if_true];exact h0
     keep:=by simp only [if_true];exact hw
     new:=by simp only [e1,if_true];exact ha
     rob:=by simp only [e1,if_true];exact hrs
     ids:=by simp only [if_true];exact hu
     phi:=by simp only [if_true];exact hp
     free:=by simp only [e1,if_true];exact hf
     env:=by simp only [e1,e2,if_false,if_true,q1]
     heap:=by simp only [e2,if_false,if_true,q2] }
   ·have t:=q4 i hlt (by simp at h2;omega)
    have e1:((c::l).getD (i - j) default)=l.getD (i - (j+1)) default:=by
     have:i - j=(i - (j+1))+1:=by omega
     rw [this];simp
    have e2:¬ (i+1=j):=by omega
    have e3:¬ (i=j):=by omega
    exact {
     fx:=by simpa only [e1,e3,if_false] using t.fx
     zero:=by simpa only [e1,e3,if_false] using t.zero
     keep:=by simpa only [e3,if_false] using t.keep
     new:=by simpa only [e1,e3,if_false] using t.new
     rob:=by simpa only [e1,e3,if_false] using t.rob
     ids:=by simpa only [e3,if_false] using t.ids
     phi:=by simpa only [e3,if_false] using t.phi
     free:=by simpa only [e1,e3,if_false] using t.free
     env:=by simpa only [e1,e2,e3,if_false] using t.env
     heap:=by simpa only [e2,e3,if_false] using t.heap }

theorem AW.dregA {Q:Exit→Env→AHeap→Prop}(hm:P.follows .mixedOrders=true)(hc:chkA l es al ws rs fs=true)(hn0:n0+al.length≤h.next)(hgap:∀ id,n0≤id→id < n0+al.length→h.gap id=true)(hphi:Φ h)(hd:DA P N Φ n0 al ws rs fs (fun e h=>Q .normal e h) 0 l e h):AW P N (.dreg l es) Q e h:=by
 intro code hcode m w a hr he
 cases code <;> simp only [compC] at hcode <;> try (cases hcode;done)
 ·rename_i id ops dr
  split at hcode
  ·rename_i hdr
   subst hdr
   injection hcode with hl hes
   refine wp_region_any hm ?_
   obtain ⟨ee,hh,rr,us,q1,q2,q3,q4⟩:=hd.trace
   simp only [Nat.zero_add] at q3 q4
   have hn:ops.size=l.length:=by rw [← hl];simp [compR]
   -- the checks
   simp only [chkA,Bool.and_eq_true,List.all_eq_true,List.mem_range,beq_iff_eq,decide_eq_true_eq] at hc
   obtain ⟨hlen,hchk⟩:=hc
   have hback:∀ j,j < l.length→∀ k∈es.getD j [],k < j:=fun j hj k hk=>by simpa using (hchk j hj).1 k hk
   have htouch:∀ i j,i < j→j < l.length→z1f l al ws rs fs i j=true→Reach es i j:=fun i j hij hj ht=>by
    have:=(hchk j hj).2 i hij
    rw [ht] at this
    exact zcn es es [] rfl (fun j i hb=>by simp at hb) j i (by simpa using this)
   have hes':∀ j (hj:j < ops.size),es.getD j []=((ops[j]).after.toList.filter (Region.binds .any)).map (·.on):=fun j hj=>by
    rw [← hes];simp [zf5,List.getD_eq_getElem?_getD,hj]
   have hci:∀ j (hj:j < ops.size),compI P N ops (ops[j])=l.getD j default:=fun j hj=>by
    rw [← hl];simp [compR,List.getD_eq_getElem?_getD,hj]
   have henv:∀ j,j < l.length→ee (j+1)=putR (l.getD j default).d (rr j) (ee j):=fun j hj=>(q4 j (Nat.zero_le _) hj).env
   have hhT:∀ i,i≤l.length→hh i=hA us h (fun _=>true) i:=fun i=>by
    induction i with
    | zero => intro _; exact q2
    | succ i ih => intro hi; rw [(q4 i (Nat.zero_le _) (by omega)).heap, ih (by omega)]; rfl
   obtain ⟨ez,q3s,q3⟩:=q3
   obtain ⟨c,hcc'⟩:∃ c:Nat→CI,∀ k,l.getD k default=c k:=⟨_,fun _=>rfl⟩
   have ecc:(fun k=>l.getD (k - 0) default)=c:=funext fun k=>by rw [Nat.sub_zero,hcc']
   rw [ecc] at q4
   simp only [hcc'] at henv hci
   -- the induction
   suffices H:∀ (fuel:Nat) (listed:Array Bool) (U:List Nat) (m1:Inj) (w1:World) (a1:Act),listed.size=l.length→U.length≤fuel→U.Nodup→(∀ j,j < l.length→(listed.getD j false=false ↔ j∈U)) →
     (∀ j,listed.getD j false=true→∀ k∈es.getD j [],listed.getD k false=true) →
     HR m1 (hA us h (fun j=>listed.getD j false) l.length) w1→ER N m1 (hA us h (fun j=>listed.getD j false) l.length) w1 (eD c rr e (fun j=>listed.getD j false) l.length) a1 →
     Step m h w m1 (hA us h (fun j=>listed.getD j false) l.length) w1→wpAny P .any ops (PA N Q m h w) fuel listed a1 w1 by
    have st:=step_drew (m:=m) (h:=h) (w:=w)
    refine H ops.size (Array.replicate ops.size false) (List.range l.length) m { w with drawn:=w.drawn+1 } a (by simp [hn]) (by simp [hn]) List.nodup_range (fun j hj=>by simp [List.getD,hn,hj]) (fun j hj => ?_) ?_ ?_ ?_
    ·rw [z26] at hj;cases hj
    all_goals
     have e1:hA us h (fun j=>(Array.replicate ops.size false).getD j false) l.length=h:=zcq (i:=0) l.length (Nat.zero_le _) fun k _ _ hd=>by rw [z26] at hd;cases hd
    ·rw [e1];exact hr.drew
    ·rw [e1]
     have e2:∀ s,lk s (eD c rr e (fun j=>(Array.replicate ops.size false).getD j false) l.length)=lk s e:=fun s=>z2f (i:=0) l.length (Nat.zero_le _) fun k _ _ _=>z26 _ _
     have he':=he.step st
     exact ⟨he'.size,he'.defers,fun i v hv=>he'.val i v (by rw [← e2];exact hv)⟩
    ·rw [e1];exact st
   intro fuel
   -- all is done
   have fin:∀ (listed:Array Bool) (m1:Inj) (w1:World) (a1:Act),listed.size=l.length→Region.ready .any ops listed=[] →
     HR m1 (hA us h (fun j=>listed.getD j false) l.length) w1→ER N m1 (hA us h (fun j=>listed.getD j false) l.length) w1 (eD c rr e (fun j=>listed.getD j false) l.length) a1 →
     Step m h w m1 (hA us h (fun j=>listed.getD j false) l.length) w1→PA N Q m h w .normal a1 w1:=fun listed m1 w1 a1 hsz hrd h1 h2 h3=>by
    have hall:∀ j,j < l.length→listed.getD j false=true:=fun j=>by
     induction j using Nat.strongRecOn with
     | ind j ih =>
      intro hj
      cases hx:listed.getD j false
      ·have:j∈Region.ready .any ops listed:=mem_ready.2 ⟨by simpa [Array.getD_eq_getD_getElem?,hsz,hj] using hx,ops[j]'(by omega),by simp [hn,hj],fun ed hed hb => ?_⟩
       ·rw [hrd] at this;cases this
       ·have hk:ed.on∈es.getD j []:=by
         rw [hes' j (by omega)]
         exact List.mem_map.2 ⟨ed,List.mem_filter.2 ⟨by simpa using hed,hb⟩,rfl⟩
        have:=hback j hj _ hk
        exact ih _ this (by omega)
      ·rfl
    have e1:hA us h (fun j=>listed.getD j false) l.length=hh l.length:=by rw [hhT _ (Nat.le_refl _)];exact z8l l.length fun k hk _=>hall k hk
    have e2:∀ s,lk s (eD c rr e (fun j=>listed.getD j false) l.length)=lk s (ee l.length):=fun s=>z4o q1 henv l.length (Nat.le_refl _) fun k hk _=>hall k hk
    rw [e1] at h1 h2 h3
    exact ⟨m1,ez,hh l.length,h1,⟨h2.size,h2.defers,fun i v hv=>h2.val i v (by rw [e2];exact q3s i v hv)⟩,h3,q3⟩
   induction fuel with
   | zero =>
    intro listed U m1 w1 a1 hsz hU hnd hmem hcl h1 h2 h3
    have hU0:U=[]:=List.length_eq_zero_iff.1 (by omega)
    subst hU0
    have hrd:Region.ready .any ops listed=[]:=List.eq_nil_iff_forall_not_mem.2 fun j hj=>by
     obtain ⟨g0,o,g1,_⟩:=mem_ready.1 hj
     have hj':j < l.length:=by rw [← hn];exact (Array.getElem?_eq_some_iff.1 g1).1
     have:=(hmem j hj').1 (by simpa [Array.getD_eq_getD_getElem?,hsz,hj'] using g0)
     cases this
    exact ⟨hrd,fin listed m1 w1 a1 hsz hrd h1 h2 h3⟩
   | succ fuel ih =>
    intro listed U m1 w1 a1 hsz hU hnd hmem hcl h1 h2 h3
    refine ⟨fun hrd=>fin listed m1 w1 a1 hsz hrd h1 h2 h3,fun i hi => ?_⟩
    obtain ⟨g0,o,g1,g2⟩:=mem_ready.1 hi
    have hi':i < l.length:=by rw [← hn];exact (Array.getElem?_eq_some_iff.1 g1).1
    have hio:i < ops.size:=by omega
    have ho:ops[i]=o:=(Array.getElem?_eq_some_iff.1 g1).2
    have hDi:listed.getD i false=false:=by simpa [Array.getD_eq_getD_getElem?,hsz,hi'] using g0
    have hpre:∀ k∈es.getD i [],listed.getD k false=true:=fun k hk=>by
     rw [hes' i hio,ho] at hk
     obtain ⟨ed,hed,rfl⟩:=List.mem_map.1 hk
     obtain ⟨he1,he2⟩:=List.mem_filter.1 hed
     exact g2 ed (by simpa using he1) he2
    -- ahead: done; behind: not done
    have ahead:∀ k,k < i→z1f l al ws rs fs k i=true→listed.getD k false=true:=fun k hk ht=>(htouch k i hk hi' ht).done (D:=fun j=>listed.getD j false) hcl hpre
    have behind:∀ k,i < k→k < l.length→z1f l al ws rs fs i k=true→listed.getD k false=false:=fun k hk hkl ht=>by
     cases hx:listed.getD k false
     ·rfl
     ·have:=(htouch i k hk hkl ht).done (D:=fun j=>listed.getD j false) hcl (hcl k hx)
      rw [hDi] at this;cases this
    have t:=q4 i (Nat.zero_le _) hi'
    -- the slots
    have hsl:∀ s∈zk (c i),lk s (eD c rr e (fun j=>listed.getD j false) l.length)=lk s (ee i):=fun s hs=>by
     rw [z2f (i:=i) l.length (by omega) fun k hk1 hk2 hkd => ?_]
     ·exact z4o q1 henv i (by omega) fun k hk1 hkd=>ahead k hk1 (by
       simp only [z1f,hcc',Bool.or_eq_true]
       refine .inl (.inl ?_)
       exact .inl (.inl (.inl (List.any_eq_true.2 ⟨s,hs,by simp [dslot,hkd]⟩))))
     ·rcases Nat.eq_or_lt_of_le hk1 with rfl | hlt
      ·exact hDi
      ·exact behind k hlt hk2 (by
        simp only [z1f,hcc',Bool.or_eq_true]
        refine .inl (.inl ?_)
        exact .inl (.inl (.inr (List.any_eq_true.2 ⟨s,hs,by simp [dslot,hkd]⟩))))
    -- what turns the heap
    have hus:∀ k,k < l.length→us k≠[]→al.contains k=false→ws.contains k=true∧heapA l fs al k=true:=fun k hk hne ha=>by
     have tk:=q4 k (Nat.zero_le _) hk
     refine ⟨?_,?_⟩
     ·cases hw:ws.contains k
      ·exact absurd (tk.keep hw ha) hne
      ·rfl
     ·cases hf0:free0 (c k).i
      ·cases hff:fs.contains k
       ·unfold heapA;rw [hcc',hf0,hff,ha];rfl
       ·exact absurd (tk.free hff).1 hne
      ·rcases tk.zero hf0 with h1 | h1
       ·rw [ha] at h1;cases h1
       ·exact absurd h1.1 hne
    have hname:∀ k,al.contains k=true→n0≤n0+al.idxOf k∧n0+al.idxOf k < n0+al.length:=fun k hk=>⟨Nat.le_add_right _ _,Nat.add_lt_add_left (List.idxOf_lt_length_of_mem (by simpa using hk)) _⟩
    have hinj:∀ k k',al.contains k=true→al.contains k'=true→n0+al.idxOf k=n0+al.idxOf k'→k=k':=fun k k' h1 h2 h3=>by
     have a1:=List.getElem_idxOf (List.idxOf_lt_length_of_mem (by simpa using h1:k∈al))
     have a2:=List.getElem_idxOf (List.idxOf_lt_length_of_mem (by simpa using h2:k'∈al))
     have a3:al.idxOf k=al.idxOf k':=by omega
     rw [← a1,← a2]
     simp only [a3]
    have hcomm:∀ k,i < k→k < l.length→listed.getD k false=true→∀ h2:AHeap,n0+al.length≤h2.next→aps (aps h2 (us i)) (us k)=aps (aps h2 (us k)) (us i):=fun k hk hkl hdk h2 hn2=>by
     by_cases hie:us i=[]
     ·rw [hie];rfl
     by_cases hke:us k=[]
     ·rw [hke];rfl
     have tk:=q4 k (Nat.zero_le _) hkl
     cases hai:al.contains i <;> cases hak:al.contains k
     ·obtain ⟨w1,y1⟩:=hus i hi' hie hai
      obtain ⟨_,y2⟩:=hus k hkl hke hak
      have:=behind k hk hkl (by
       simp only [z1f,w1,y1,y2,Bool.or_eq_true]
       exact .inl (.inl (.inr (by simp))))
      rw [this] at hdk;cases hdk
     ·obtain ⟨x,hx,_⟩:=tk.new hak
      have hna:=hname k hak
      obtain ⟨w1,y1⟩:=hus i hi' hie hai
      cases hri:rs.contains i
      ·have:=behind k hk hkl (by
        simp only [z1f,hak,y1,hri,Bool.or_eq_true]
        exact .inr (by simp))
       rw [this] at hdk;cases hdk
      ·rw [hx]
       exact (zhh (fun u hu e1=>(t.ids hai).2 hri u hu (by omega)) (by omega)).symm
     ·obtain ⟨x,hx,_⟩:=t.new hai
      have hna:=hname i hai
      obtain ⟨w1,y1⟩:=hus k hkl hke hak
      cases hrk:rs.contains k
      ·have:=behind k hk hkl (by
        simp only [z1f,hai,y1,hrk,Bool.or_eq_true]
        exact .inl (.inr (by simp)))
       rw [this] at hdk;cases hdk
      ·rw [hx]
       exact zhh (fun u hu e1=>(tk.ids hak).2 hrk u hu (by omega)) (by omega)
     ·obtain ⟨x,hx,_⟩:=t.new hai
      obtain ⟨y,hy,_⟩:=tk.new hak
      have hna:=hname i hai
      rw [hx,hy]
      exact zpp (u := .put _ y) (fun e1=>absurd (hinj _ _ hak hai e1) (by omega)) (by omega)
    -- the heap, for what looks at it
    have hexact:heapA l fs al i=true→rs.contains i=false→hA us h (fun j=>listed.getD j false) l.length=hh i:=fun hy hri=>by
     rw [zcq (i:=i) l.length (by omega) fun k hk1 hk2 hkd => ?_,hhT i (by omega)]
     ·refine z8l i fun k hk1 hke=>ahead k hk1 ?_
      cases hak:al.contains k
      ·obtain ⟨w2,y2⟩:=hus k (by omega) hke hak
       simp only [z1f,w2,hy,y2,Bool.or_eq_true]
       exact .inl (.inl (.inr (by simp)))
      ·simp only [z1f,hak,hy,hri,Bool.or_eq_true]
       exact .inl (.inr (by simp))
     ·rcases Nat.eq_or_lt_of_le hk1 with rfl | hlt
      ·rw [hDi] at hkd;cases hkd
      ·refine Classical.byContradiction fun hke => ?_
       have:=behind k hlt hk2 (by
        cases hak:al.contains k
        ·obtain ⟨w2,y2⟩:=hus k (by omega) hke hak
         simp only [z1f,w2,hy,y2,Bool.or_eq_true]
         exact .inl (.inl (.inr (by simp)))
        ·simp only [z1f,hak,hy,hri,Bool.or_eq_true]
         exact .inr (by simp))
       rw [this] at hkd;cases hkd
    have hrobust:heapA l fs al i=true→Sim n0 al.length (hh i) (hA us h (fun j=>listed.getD j false) l.length):=fun hy=>by
     have e1:hh i=hA us h (fun k=>decide (k < i)) l.length:=by
      rw [hhT i (by omega),zcq (i:=i) (D:=fun k=>decide (k < i)) l.length (by omega) fun k hk1 _ hd=>absurd (of_decide_eq_true hd) (by omega)]
      exact z8l i fun k hk _=>by simp [hk]
     rw [e1]
     refine zpr hn0 l.length fun k hk => ?_
     by_cases hke:us k=[]
     ·exact .inl hke
     cases hak:al.contains k
     ·refine .inr (.inl ?_)
      obtain ⟨w2,y2⟩:=hus k hk hke hak
      rcases Nat.lt_trichotomy k i with h1 | h1 | h1
      ·rw [ahead k h1 (by
        simp only [z1f,w2,hy,y2,Bool.or_eq_true]
        exact .inl (.inl (.inr (by simp))))]
       simp [h1]
      ·subst h1;rw [hDi];simp
      ·rw [behind k h1 hk (by
        simp only [z1f,w2,hy,y2,Bool.or_eq_true]
        exact .inl (.inl (.inr (by simp))))]
       simp;omega
     ·obtain ⟨x,hx,_⟩:=(q4 k (Nat.zero_le _) hk).new hak
      exact .inr (.inr ⟨_,x,hname k hak,hx⟩)
    have hnew:∀ k,(listed.setIfInBounds i true).getD k false=(if k=i then true else listed.getD k false):=fun k=>by
     by_cases hk:k=i
     ·subst hk;simp [hsz,hi']
     ·rw [if_neg hk];exact getD_set_ne false (Ne.symm hk)
    have hDn:(fun k=>(listed.setIfInBounds i true).getD k false)=fun k=>if k=i then true else listed.getD k false:=funext hnew
    -- what holds behind it
    have go:∀ h',hA us h (fun k=>if k=i then true else listed.getD k false) l.length=h'→FX P N (c i) (ee i) (hA us h (fun j=>listed.getD j false) l.length) (rr i) h' →
      wpOp P ops (PA N Q m h w) i (wpAny P .any ops (PA N Q m h w) fuel (listed.setIfInBounds i true)) a1 w1:=fun h' hh' hfx=>by
     refine hfx ops i o g1 (by rw [← ho,hci i hio]) _ hsl m1 w1 a1 _ _ h1 h2 fun m2 w2 a2 r1 r2 r3 => ?_
     refine ih (listed.setIfInBounds i true) (U.erase i) m2 w2 a2 (by simp [hsz]) ?_ (hnd.erase i) (fun j hj => ?_) (fun j hj => ?_) ?_ ?_ ?_
     ·rw [List.length_erase_of_mem ((hmem i hi').1 hDi)];omega
     ·rw [hnew,hnd.mem_erase_iff]
      by_cases hji:j=i
      ·simp [hji]
      ·simp [hji,← hmem j hj]
     ·intro k hk
      rw [hnew] at hj ⊢
      by_cases hki:k=i
      ·simp [hki]
      ·rw [if_neg hki]
       by_cases hji:j=i
       ·subst hji;exact hpre k hk
       ·rw [if_neg hji] at hj;exact hcl j hj k hk
     ·rw [hDn,hh'];exact r1
     ·rw [hDn,hh']
      refine ⟨r2.size,r2.defers,fun s v hv=>r2.val s v ?_⟩
      rw [← hv]
      by_cases hds:(c i).d=some s
      ·rw [hds,zf]
       rw [z2f (i:=i+1) l.length (by omega) fun k hk1 hk2 hkd => ?_]
       ·simp only [eD,if_true,hds,zf]
       ·have:¬ k=i:=by omega
        simp only [this,if_false]
        exact behind k (by omega) hk2 (by
         simp only [z1f,hcc',Bool.or_eq_true]
         refine .inl (.inl ?_)
         exact .inl (.inr (by simp [hds,hkd])))
      ·rw [zz hds]
       have key:∀ n,lk s (eD c rr e (fun j=>listed.getD j false) n)=lk s (eD c rr e (fun k=>if k=i then true else listed.getD k false) n):=fun n=>by
        induction n with
        | zero => rfl
        | succ n ihn =>
         simp only [eD]
         by_cases hni:n=i
         ·subst hni
          simp only [if_true,hDi,Bool.false_eq_true,if_false]
          rw [zz hds];exact ihn
         ·simp only [hni,if_false]
          split
          ·by_cases hdn:(c n).d=some s
           ·rw [hdn,zf,zf]
           ·rw [zz hdn,zz hdn];exact ihn
          ·exact ihn
       exact key _
     ·rw [hDn,hh'];exact h3.trans r3
    have hins:hA us h (fun k=>if k=i then true else listed.getD k false) l.length=aps (hA us h (fun j=>listed.getD j false) l.length) (us i) :=
     zpq hn0 hDi (fun _=>rfl) l.length hi' hcomm
    refine go _ hins ?_
    have hnew:al.contains i=true→FX P N (c i) (ee i) (hA us h (fun j=>listed.getD j false) l.length) (rr i) (aps (hA us h (fun j=>listed.getD j false) l.length) (us i)):=fun hai=>by
     obtain ⟨x,_,hfx⟩:=t.new hai
     have hna:=hname i hai
     refine hfx _ fun hu => ?_
     have:=zl1 (us:=us) (D:=fun j=>listed.getD j false) (hgap _ hna.1 hna.2) (n:=l.length) (fun k hk hdk u hu=>by
      cases hak:al.contains k
      ·rcases ((q4 k (Nat.zero_le _) hk).ids hak).1 u hu with h1 | h1
       ·exact .inl h1
       ·exact .inr fun e1=>h1 (by omega)
      ·obtain ⟨y,hy,_⟩:=(q4 k (Nat.zero_le _) hk).new hak
       rw [hy,List.mem_singleton] at hu
       subst hu
       refine .inr fun e1 => ?_
       have:=hinj _ _ hak hai e1
       subst this
       rw [hDi] at hdk;cases hdk) l.length (Nat.le_refl _)
     rw [hu.2] at this;cases this
    cases hf0:free0 (c i).i
    ·cases hff:fs.contains i
     ·cases hai:al.contains i
      ·have hy:heapA l fs al i=true:=by unfold heapA;rw [hcc',hf0,hff,hai];rfl
       cases hri:rs.contains i
       ·rw [hexact hy hri];exact t.fx hai
       ·exact t.rob hri _ (hrobust hy)
      ·exact hnew hai
     ·rw [(t.free hff).1]
      exact (t.free hff).2 _ (zl0 hphi (fun j hj=>(q4 j (Nat.zero_le _) hj).phi) l.length (Nat.le_refl _))
    ·rcases t.zero hf0 with hai | h1
     ·exact hnew hai
     ·rw [h1.1]
      exact h1.2 _
  ·cases hcode
 ·split at hcode <;> cases hcode
 ·split at hcode <;> cases hcode
end
end Go.Abs

namespace Go.Abs
open Go

section
variable {P:Program}{N:Nat}{e e' e2:Env}{h h':AHeap}{Q:Exit→Env→AHeap→Prop}{l:List CI}{Φ:AHeap→Prop}{n0:Nat}{al ws rs fs:List Nat}{K:Env→AHeap→Prop}{j:Nat}

theorem DA.endL (hk:K e h):DA P N Φ n0 al ws rs fs K j [] e h := .nil (fun _ _ hv=>hv) hk
theorem DA.go {c:CI}{e':Env}(k:DA P N Φ n0 al ws rs fs K (j+1) l e' h)(hs:Stp c e h e' h:=by exact Stp.auto)(hf:fs.contains j=false:=by exact rfl)(ha:al.contains j=false:=by exact rfl)(hr:rs.contains j=false:=by exact rfl):DA P N Φ n0 al ws rs fs K j (c::l) e h:=by
 obtain ⟨r,he,hx,h0⟩:=FX.of_stp (P:=P) (N:=N) hs
 subst he
 exact .fx [] (fun _=>hx) (fun hz => .inr ⟨rfl,(h0 hz).2⟩) (fun _ _=>rfl) (fun hz=>by rw [ha] at hz;cases hz) (fun hz=>by rw [hr] at hz;cases hz) (fun _=>⟨by simp,by simp⟩) (fun _ h2=>h2) (fun hz=>by rw [hf] at hz;cases hz) k
theorem DA.goF {c:CI}{n:Nat}{W:List Nat}{h0:AHeap}(k:DA P N (PhiW n W h0) n0 al ws rs fs K (j+1) l e' h)(hs:∀ h2,PhiW n W h0 h2→Stp c e h2 e' h2:=by
  intro h2 hp2
  first
   | (apply Stp.load1; exact rfl; exact (hp2 _ (by omega) (by simp)).trans gH; exact (by first | exact ze rfl rfl | exact zy rfl | exact z4 (Nat.le_of_ble_eq_true rfl) (by first | (simp only [putC, AV.cs, encP, encN, encI, encS, encA, List.take_succ_cons, List.take_zero, List.take_nil, List.drop_succ_cons, List.drop_zero, List.drop_nil, List.cons_append, List.nil_append, List.append_nil, List.length_cons, List.length_nil, Nat.zero_add, Nat.add_zero, Nat.reduceAdd]; exact rfl) | exact rfl) | exact z4 (by simp) (by first | (simp only [putC, AV.cs, encP, encN, encI, encS, encA, List.take_succ_cons, List.take_zero, List.take_nil, List.drop_succ_cons, List.drop_zero, List.drop_nil, List.cons_append, List.nil_append, List.append_nil, List.length_cons, List.length_nil, Nat.zero_add, Nat.add_zero, Nat.reduceAdd]; exact rfl) | exact rfl)); exact gM)
   | exact Stp.auto) (hp : PhiW n W h0 h := by repeat first | exact PhiW.refl | refine PhiW.put (by omega) ?_ | refine PhiW.setW (by simp) ?_ | refine PhiW.setN (by omega) ?_ | exact fun _ _ _ => rfl) (ha : al.contains j = false := by exact rfl) (hr : rs.contains j = false := by exact rfl) : DA P N (PhiW n W h0) n0 al ws rs fs K j (c :: l) e h := by
 have key:∀ h2,PhiW n W h0 h2→∃ r,e'=putR c.d r e∧FX P N c e h2 r h2∧(free0 c.i=true→h2=h2∧∀ h3,FX P N c e h3 r h3):=fun h2 h3=>FX.of_stp (hs h2 h3)
 obtain ⟨r,he,hx,hz⟩:=key h hp
 subst he
 refine .fx [] (fun _=>hx) (fun hy => .inr ⟨rfl,(hz hy).2⟩) (fun _ _=>rfl) (fun hy=>by rw [ha] at hy;cases hy) (fun hy=>by rw [hr] at hy;cases hy) (fun _=>⟨by simp,by simp⟩) (fun _ h2=>h2) (fun _=>⟨rfl,fun h2 h3 => ?_⟩) k
 obtain ⟨r2,he2,hx2,_⟩:=key h2 h3
 cases hd:c.d with
 | none =>
  intro ops i o ho hc e3 hs3 m w a KK QQ hr2 he3 hk
  exact hx2 ops i o ho hc e3 hs3 m w a KK QQ hr2 he3 (by rw [hd] at hk ⊢;exact hk)
 | some d =>
  rw [hd] at he2
  simp only [putR,List.cons.injEq,Prod.mk.injEq,true_and,and_true] at he2
  rw [he2];exact hx2
theorem DA.new {d:Nat}{z:List AV}{g:Option (Nat×Bool)}{i n:Nat}{W:List Nat}{h0:AHeap}(k:DA P N (PhiW n W h0) n al ws rs fs K (j+1) l ((d,some (.ptr (n+i) 0 0))::e) (h.put (n+i) (.mem z.length [z])))
  (hi:al.idxOf j=i:=by first | exact (rfl:_=0) | exact (rfl:_=1) | exact (rfl:_=2) | exact (rfl:_=3) | exact (rfl:_=4)) (hg:met e g:=by first | exact True.intro | exact rfl) (ha:al.contains j=true:=by exact rfl) (hr:rs.contains j=false:=by exact rfl) (hf:fs.contains j=false:=by exact rfl):DA P N (PhiW n W h0) n al ws rs fs K j (⟨some d,.alloc z,g⟩::l) e h:=by
 subst hi
 exact .fx (r:=some (.ptr (n+al.idxOf j) 0 0)) [.put (n+al.idxOf j) (.mem z.length [z])] (fun hz=>by rw [ha] at hz;cases hz) (fun hz=>by simp [free0] at hz) (fun _ hz=>by rw [ha] at hz;cases hz) (fun _=>⟨_,rfl,fun h2 hu=>FX.allocN hu hg⟩) (fun hz=>by rw [hr] at hz;cases hz)
  (fun hz=>by rw [ha] at hz;cases hz) (fun h2 hp=>PhiW.put (Nat.le_add_right _ _) hp) (fun hz=>by rw [hf] at hz;cases hz) k
theorem DA.set {c:CI}{n id:Nat}{W:List Nat}{h0:AHeap}{x:Option AObj}(k:DA P N (PhiW n W h0) n0 al ws rs fs K (j+1) l e' (h.set id x))(hs:Stp c e h e' (h.set id x):=by exact Stp.auto)(hf:fs.contains j=false:=by exact rfl)(hw:ws.contains j=true:=by exact rfl)(ha:al.contains j=false:=by exact rfl)(hr:rs.contains j=false:=by exact rfl)(hz:free0 c.i=false:=by exact rfl)(hp:∀ h2,PhiW n W h0 h2→PhiW n W h0 (h2.set id x):=by first | exact fun _=>PhiW.setN (by omega) | exact fun _=>PhiW.setW (by simp;done)) :
  DA P N (PhiW n W h0) n0 al ws rs fs K j (c::l) e h:=by
 obtain ⟨r,he,hx,_⟩:=FX.of_stp (P:=P) (N:=N) hs
 subst he
 exact .fx [.set id x] (fun _=>hx) (fun hy=>by rw [hz] at hy;cases hy) (fun hy=>by rw [hw] at hy;cases hy) (fun hy=>by rw [ha] at hy;cases hy) (fun hy=>by rw [hr] at hy;cases hy) (fun _=>⟨by simp [Up.isSet],fun hy=>by rw [hr] at hy;cases hy⟩) hp (fun hy=>by rw [hf] at hy;cases hy) k
theorem DA.callSS {d:Option Nat}{f n i1 i2:Nat}{x1 x2:Option AObj}{W:List Nat}{h0:AHeap}{xs:List Opd}{g:Option (Nat×Bool)}{vs us:List AV}{r:AV}(hv:evL e xs=some us)(hg:met e g)(hs:SubL us vs)(hf:fs.contains j=false)(hw:ws.contains j=true)(ha:al.contains j=false)(hp:∀ h2,PhiW n W h0 h2→PhiW n W h0 ((h2.set i1 x1).set i2 x2))
  (hn:i1 < n0∧i2 < n0) (hac:∀ h2,Sim n0 al.length h h2→AE P f vs h2 r ((h2.set i1 x1).set i2 x2)) (k:DA P N (PhiW n W h0) n0 al ws rs fs K (j+1) l (putR d (some r) e) ((h.set i1 x1).set i2 x2)):DA P N (PhiW n W h0) n0 al ws rs fs K j (⟨d,.call f xs,g⟩::l) e h:=by
 refine .fx [.set i1 x1,.set i2 x2] (fun _=>FX.call hg hv ((hac h Sim.refl).sub hs)) (fun hy=>by simp [free0] at hy) (fun hy=>by rw [hw] at hy;cases hy) (fun hy=>by rw [ha] at hy;cases hy) (fun _ h2 h3=>FX.call hg hv ((hac h2 h3).sub hs)) (fun _=>⟨by simp [Up.isSet],fun _ u hu => ?_⟩) hp (fun hy=>by rw [hf] at hy;cases hy) k
 simp only [List.mem_cons,List.not_mem_nil,or_false] at hu
 rcases hu with rfl | rfl
 ·show ¬ (n0≤i1∧_);omega
 ·show ¬ (n0≤i2∧_);omega
theorem WW.seqM {c1 c2:CC}(I:Env→AHeap→Prop)(h1:WW P N c1 (fun x e h=>x = .normal∧I e h) e h)(h2:∀ e h,I e h→WW P N c2 Q e h):WW P N (.seq c1 c2) Q e h :=
 WW.seq ⟨h1.out.mono fun x e h hq=>by
  obtain ⟨rfl,hi⟩:=hq
  exact thenN (h2 e h hi)⟩
theorem WW.named {c:CC}(p:AHeap→Prop)(hp:p h)(k:∀ h5,p h5→WW P N c Q e h5):WW P N c Q e h:=k h hp
theorem WW.dregA [MO P]{es:List (List Nat)}(al ws rs fs W:List Nat){n:Nat}(hn:h.next=n)(hc:chkA l es al ws rs fs=true)(hd:DA P N (PhiW n W h) n al ws rs fs (fun e h=>Q .normal e h) 0 l e (h.keep al.length)):WW P N (.dreg l es) Q e h:=by
 subst hn
 refine WW.cvt (Cvt.keep al.length) ⟨AW.dregA MO.mo hc (Nat.le_refl _) (fun id h1 h2 => ?_) (fun _ _ _=>rfl) hd⟩
 simp only [AHeap.keep,Bool.or_eq_true,Bool.and_eq_true,decide_eq_true_eq]
 exact .inr ⟨h1,h2⟩
end
end Go.Abs

namespace Go.Abs
open Go

section
variable {P:Program}{N:Nat}{e:Env}{h:AHeap}{m:Inj}{w:World}{nm:Nat}

theorem zil (hr:HR m h w)(hf:¬ h.used nm){sz cap:Nat}{d:List (List AV)}{F:Nat→Value}{cc:Array Value}{T:TypeId}(hrow:RowF m h w sz d F)(hcap:d.length≤cap)(hcc:cap*sz≤cc.size)
  (hF:∀ k,k < d.length*sz→cc[k]? = some (F k)) :
  HR (upd m nm (some (w.heap.size,0))) (h.put nm (.mem sz d)) (w.drew.alloc (.cells cc T))∧Step m h w (upd m nm (some (w.heap.size,0))) (h.put nm (.mem sz d)) (w.drew.alloc (.cells cc T)) ∧
   VR (upd m nm (some (w.heap.size,0))) (h.put nm (.mem sz d)) (w.drew.alloc (.cells cc T)) (.ref nm 0 d.length) (.slice (some ⟨w.heap.size,0,none⟩) d.length cap):=by
 have hle:d.length*sz≤cap*sz:=Nat.mul_le_mul_right _ hcap
 have hrow2:RowF m h w.drew sz d (fun k=>cc.getD k undef):=by
  refine ⟨hrow.1,hrow.2.1,fun i cells hi j v hj => ?_⟩
  have h1:i < d.length:=(List.getElem?_eq_some_iff.1 hi).1
  have h2:j < sz:=by
   have:=hrow.1 cells (List.mem_of_getElem? hi)
   have:=(List.getElem?_eq_some_iff.1 hj).1
   omega
  have h3:i*sz+j < d.length*sz:=by
   have:(i+1)*sz≤d.length*sz:=Nat.mul_le_mul_right _ h1
   rw [Nat.succ_mul] at this
   omega
  have h4:cc.getD (i*sz+j) undef=F (i*sz+j):=by
   rw [Array.getD_eq_getD_getElem?,hF _ h3];rfl
  show VR m h w.drew v (cc.getD (i*sz+j) undef)
  rw [h4]
  exact (hrow.2.2 i cells hi j v hj).step step_drew
 obtain ⟨r1,r2⟩:=z4l (T:=T) (hr.drew) hf (by omega) hrow2
 refine ⟨r1,Step.trans step_drew r2,.ref nm 0 d.length cap _ z2 hcap fun s c hg => ?_⟩
 simp only [AHeap.put,if_true,Option.some.injEq,AObj.mem.injEq] at hg
 obtain ⟨rfl,rfl⟩:=hg
 exact ⟨w.heap.size,by simp [upd],by omega,.inr (by simp),cc,T,heap_alloc_new w.drew _,by rw [Nat.zero_add];exact hcc⟩
theorem zoi (hr:HR m h w)(hf:¬ h.used nm){t ty el:TypeId}{i:TypeInfo}{z:Value}(hu:P.underlying t=some (.slice el))(hi:P.info? el=some i)(hz:i.zero=some z)(hsz:0 < i.size)(hb:0 < i.bytes)(hzz:z.cells.size=i.size)
  {base:Option Addr} {x:AV} {cx:Value} (hx:VR m h w x cx) {d:List (List AV)} (hd:rdS h.get i.size x=some d) (hne:d≠[]) (hbig:d.length*i.bytes≤140737488355328) :
  ∃ m' w' cv,(Builtin.append_ #[t,t] ty #[.slice base 0 0,cx]).run P w = .ok cv w'∧HR m' (h.put nm (.mem i.size d)) w'∧Step m h w m' (h.put nm (.mem i.size d)) w'∧VR m' (h.put nm (.mem i.size d)) w' (.ref nm 0 d.length) cv:=by
 obtain ⟨ad,cap,F,rfl,hcap,hrow,h1c,hcell⟩:=z67 hr hx hd
 obtain ⟨b,o',rfl,hc⟩:=hcell hne
 have hpos:0 < d.length:=List.length_pos_iff.2 hne
 have hn1:d.length*1≤d.length*i.bytes:=Nat.mul_le_mul_left _ hb
 have hg:=grownCap_ge w d.length 0 el
 have hsize:∀ n,d.length≤n→n*i.size≤(((List.range (d.length*i.size)).map F).toArray++Builtin.zeroCells z.cells (n - d.length)).size:=by
  intro n hn
  simp only [Array.size_append,List.size_toArray,List.length_map,List.length_range,size_zeroCells,hzz,← Nat.add_mul]
  exact Nat.mul_le_mul_right _ (by omega)
 obtain ⟨r1,r2,r3⟩:=zil (T:=el) hr hf hrow hg (hsize _ hg) (fun k hk=>z4w F _ k hk _)
 cases base with
 | none =>
  exact ⟨_,_,_,run_append_nil (P:=P) w t ty el i z hu hi hz ⟨b,o',none⟩ d.length cap _ (by simp) hc hpos (by omega) (by omega),r1,r2,r3⟩
 | some bb =>
  have hrun:=run_append_grow (P:=P) w t ty el i z hu hi hz bb 0 0 [] (by simp) (by simp) ⟨b,o',none⟩ d.length cap ((List.range (d.length*i.size)).map F) (by simp) hc (by omega) (by omega) (growslice_fits (by omega) (by rw [Nat.zero_add];exact hbig))
  simp only [Nat.zero_add,Array.empty_append] at hrun
  exact ⟨_,_,_,hrun,r1,r2,r3⟩
theorem FX.appM {d:Option Nat}{sz bytes:Nat}{x y:Opd}{g:Option (Nat×Bool)}{v:AV}{c:List (List AV)}(hf:¬ h.used nm)(hx:ev e x=some .nils)(hy:ev e y=some v)(hc:rdS h.get sz v=some c)(hne:c≠[])(hb:c.length*bytes≤140737488355328)(hg:met e g):FX P N ⟨d,.app sz bytes x y,g⟩ e h (some (.ref nm 0 c.length)) (h.put nm (.mem sz c)):=by
 refine FX.ofN (f := .new (.mem sz c)) rfl hg fun o ho e2 hs m w a hr he => ?_
 obtain ⟨cl,s,n,t,el,i,z,hop,hcal,hargs,hat,hu,h1,h2,hi,hz,p1,p2,p3,rfl,rfl⟩:=zpi ho
 have hx2:ev e2 x=some .nils:=(z5 fun s h=>hs s (by simp [z16,h])).trans hx
 have hy2:ev e2 y=some v:=(z5 fun s h=>hs s (by simp [z16,h])).trans hy
 have ha':cl.args=#[s,n]:=by rw [← Array.toArray_toList (xs:=cl.args),hargs]
 have hat':cl.argTypes=#[t,t]:=by rw [← Array.toArray_toList (xs:=cl.argTypes),hat]
 have e1:=he.eval h1 hx2
 have e3:=he.eval h2 hy2
 have hbase:∃ base,a.eval s = .slice base 0 0:=by
  generalize a.eval s=cx at e1
  cases e1 with
  | nils0 => exact ⟨_, rfl⟩
  | nils1 ad => exact ⟨_, rfl⟩
 obtain ⟨base,hcx⟩:=hbase
 obtain ⟨m',w',cv,q1,q2,q3,q4⟩:=zoi (P:=P) (ty:=o.type) (base:=base) hr hf hu hi hz p1 p2 p3 e3 hc hne hb
 exact ⟨m',w',q2,q3,cv,by simp [execOp,hop,resolve,hcal,ha',hat',invoke,builtin,hcx,q1],q4⟩
variable {n0:Nat}{al ws rs fs:List Nat}{K:Env→AHeap→Prop}{l:List CI}{j:Nat}
end
end Go.Abs

namespace Go.Abs
open Go

section
variable {P:Program}{N:Nat}{e:Env}{h:AHeap}{m:Inj}{w:World}{nm:Nat}
variable {n0:Nat}{al ws rs fs:List Nat}{K:Env→AHeap→Prop}{l:List CI}{j:Nat}
theorem DA.callF {Φ:AHeap→Prop}{d:Option Nat}{f:Nat}{xs:List Opd}{g:Option (Nat×Bool)}{vs us:List AV}{r:AV}(hv:evL e xs=some us)(hg:met e g)(hs:SubL us vs)(hf:fs.contains j=true)(ha:al.contains j=false)(hr:rs.contains j=false)(hac:∀ h2,Φ h2→AE P f vs h2 r h2)(hph:Φ h)(k:DA P N Φ n0 al ws rs fs K (j+1) l (putR d (some r) e) h):DA P N Φ n0 al ws rs fs K j (⟨d,.call f xs,g⟩::l) e h :=
 .fx [] (fun _=>FX.call hg hv ((hac h hph).sub hs)) (fun hy=>by simp [free0] at hy) (fun _ _=>rfl) (fun hy=>by rw [ha] at hy;cases hy) (fun hy=>by rw [hr] at hy;cases hy) (fun _=>⟨by simp,by simp⟩) (fun _ h2=>h2) (fun _=>⟨rfl,fun h2 h3=>FX.call hg hv ((hac h2 h3).sub hs)⟩) k
theorem WL.cut {Q:Exit→Env→AHeap→Prop}{l:List CI}(I:Env→AHeap→Prop)(hI:I e h)(k:∀ e h,I e h→WL P N l Q e h):WL P N l Q e h:=k e h hI
theorem FX.callv {h':AHeap}{d:Option Nat}{f:Nat}{x:Opd}{xs:List Opd}{g:Option (Nat×Bool)}{us vs ts:List AV}{r:AV}(hx:ev e x=some (.func (.func f) us ts))(hv:evL e xs=some vs)(hg:met e g)(hb:z2j P f=true)(hac:AE P f (us++vs++ts) h r h'):FX P N ⟨d,.callv x xs,g⟩ e h (some r) h':=by
 intro ops i o ho hc e2 hs m w a K Q hr he hk
 rcases zx hc with ⟨hb1,hb2⟩ | ⟨hd,hdst,hcomp,hgd⟩
 ·simp at hb1
 ·obtain ⟨w1,w2⟩:=zl he hgd
  have hi:∀ s∈z1p xs,lk s e2=lk s e:=fun s h=>hs s (by unfold zk;split <;> simp [h,z16])
  have hi2:∀ s∈zh x,lk s e2=lk s e:=fun s h=>hs s (by unfold zk;split <;> simp [h,z16])
  have hw:Region.wanted o (yielded ops a.tmps)=true:=by
   cases g with
   | none => exact w1 rfl
   | some sb =>
    obtain ⟨s,b⟩:=sb
    have hl:lk s e2=some (.bool b):=(hs s (by simp [zk])).trans hg
    rw [w2 s b b rfl hl];simp
  simp only [wpOp,ho]
  rw [if_pos hw]
  left
  have hco:=hcomp rfl
  obtain ⟨c,y,hop,hcal,hy,hxs⟩:=z5c hco
  obtain ⟨hl1,hl2⟩:=he.evalL hxs ((z25 hi).trans hv)
  have hfv:=he.eval hy ((z5 hi2).trans hx)
  generalize hcx:a.eval (.tmp y)=cx at hfv
  cases hfv with
  | func _ _ _ cs ds q1 q2 q3 q4 =>
   have hrun:(execOp a.eval o).run P w = .ok (.enter f (cs++c.args.map a.eval++ds)) w:=by
    simp [execOp,hop,resolve,hcal,hcx,Deferred.ofValue,invoke,z1b hb]
   refine z3g hrun hr (by simp [q1,q2,hl1]) (fun j v hj => ?_) hac fun v w' m' r1 h1 g1 g2 g3 ⟨g4,g5⟩ => ?_
   ·rw [List.append_assoc] at hj
    simp only [Array.getD_eq_getD_getElem?]
    by_cases j1:j < us.length
    ·rw [List.getElem?_append_left j1] at hj
     have:=q3 j v hj
     rw [Array.append_assoc,Array.getElem?_append_left (by omega)]
     simpa [Array.getD_eq_getD_getElem?] using this
    ·rw [List.getElem?_append_right (by omega)] at hj
     rw [Array.append_assoc,Array.getElem?_append_right (by omega),← q1]
     by_cases j2:j - us.length < vs.length
     ·rw [List.getElem?_append_left j2] at hj
      have:=hl2 _ v hj
      rw [Array.getElem?_append_left (by simp at hl1 ⊢;omega)]
      simpa [List.getD_eq_getElem?_getD] using this
     ·rw [List.getElem?_append_right (by omega)] at hj
      have:=q4 _ v hj
      have hl1':vs.length=c.args.size:=by simpa using hl1
      rw [Array.getElem?_append_right (by simp;omega)]
      simpa [Array.getD_eq_getD_getElem?,hl1'] using this
   ·subst g4;subst g5
    refine hk m' w' _ g1 ?_ g3
    have hd':d=o.dst:=hd
    show ER N m' h1 w' (putR d (some r1) e2) _
    rw [hd']
    exact (he.step g3).putR hdst g2
end
end Go.Abs

namespace Go.Abs
open Go

section
variable {P:Program}{N:Nat}{e:Env}{h h':AHeap}{m:Inj}{w:World}{Q:Exit→Env→AHeap→Prop}{l:List CI}
theorem zsz {o:Oper}{sz bytes:Nat}{z:List AV}{x y:Opd}(hc:zb P N o=some (.mksl sz z bytes x y)):∃ t el i zv lx cx,o.op = .makeSlice t lx cx∧P.underlying t=some (.slice el)∧P.info? el=some i∧i.zero=some zv∧ofL ofV zv.cells.toList=some z ∧
    0 < i.bytes∧0 < i.size∧zv.cells.size=i.size∧ofOpd N lx=some x∧ofOpd N cx=some y∧sz=i.size∧bytes=i.bytes:=by
  cases hop:o.op <;> simp only [zb,hop] at hc <;> try (cases hc;done)
  case makeSlice t lx cx =>
    repeat' split at hc
    all_goals first
      | (cases hc; done)
      | (rename_i hcond; cases hc; exact ⟨_, _, _, _, _, _, rfl, ‹_›, ‹_›, ‹_›, ‹_›, hcond.1, hcond.2.1, hcond.2.2, ‹_›, ‹_›, rfl, rfl⟩)
      | contradiction
  all_goals
    (repeat' split at hc
     all_goals first
       | (cases hc; done)
       | (rw [Option.map_eq_some_iff] at hc; obtain ⟨_, _, h⟩ := hc; cases h; done)
       | contradiction)
theorem WL.named (p:AHeap→Prop)(hp:p h)(k:∀ h5,p h5→WL P N l Q e h5):WL P N l Q e h:=k h hp
theorem FX.mkslI {d:Option Nat}{sz bytes n:Nat}{z:List AV}{x y:Opd}{k k':IntKind}{a b:Int}{g:Option (Nat×Bool)}(hx:ev e x=some (.int k a))(hy:ev e y=some (.int k' b))(ha:a=n)(hb:b=n)(hm:n*bytes≤140737488355328)(hg:met e g) :
  FX P N ⟨d,.mksl sz z bytes x y,g⟩ e h (some (.imm sz (List.replicate n z))) h:=by
 subst ha hb
 refine FX.of (f := .none) rfl hg fun o ho e2 hs m w a hr he => ?_
 obtain ⟨t,el,i,zv,lx,cx,hop,hu,hi,hz,hzs,hbb,hsz,hzz,h1,h2,rfl,rfl⟩:=zsz ho
 have hx2:ev e2 x=some (.int k n):=(z5 fun s h=>hs s (by simp [z16,h])).trans hx
 have hy2:ev e2 y=some (.int k' n):=(z5 fun s h=>hs s (by simp [z16,h])).trans hy
 have e1:=zm (he.eval h1 hx2)
 have e3:=zm (he.eval h2 hy2)
 obtain ⟨hzl,hzsc,hzv⟩:=z4k (m:=m) (h:=h) (w:=w) hzs
 have hzl':z.length=i.size:=by simpa [hzz] using hzl
 have hn1:n*1≤n*i.bytes:=Nat.mul_le_mul_left _ hbb
 have hmul:((n:Int)*(i.bytes:Int))=((n*i.bytes:Nat):Int):=by simp
 have hrun:=run_make (P:=P) w t el i zv hu hi hz k k' n n (by omega) (Int.le_refl _) (by rw [Int.mul_comm];omega) (by omega)
 have st:Step m h w m h (w.alloc (.cells (madeCells zv.cells (n*i.size)) el)):=z3n hr _
 refine ⟨m,_,hr.alloc _,st,.slice (some ⟨w.heap.size,0,none⟩) n n,by simp [execOp,hop,e1,e3,hrun],?_⟩
 have key:=VR.imm (m:=m) (h:=h) (w:=w.alloc (.cells (madeCells zv.cells (n*i.size)) el)) i.size (List.replicate n z) w.heap.size 0 n (fun k=>(madeCells zv.cells (n*i.size)).getD k undef) (fun q hq=>⟨?_,?_⟩) (fun x hx=>by rw [List.eq_of_mem_replicate hx];exact hzl') (fun x hx=>by rw [List.eq_of_mem_replicate hx];exact hzsc) (fun q cells hq j v hj => ?_) (by simp)
 ·simp only [List.length_replicate] at key
  exact key
 ·rw [Nat.zero_add,World.cell?_alloc_new]
  simp only [List.length_replicate] at hq
  simp [Array.getD_eq_getD_getElem?,show q < (madeCells zv.cells (n*i.size)).size by rw [size_madeCells];exact hq]
 ·rintro ⟨id,t',⟨x,hx⟩,hmx,_⟩
  have:=(hr.obj id x hx).lt hmx
  omega
 ·have hql:q < n:=by simpa using (List.getElem?_eq_some_iff.1 hq).1
  have hc:cells=z:=List.eq_of_mem_replicate (List.mem_of_getElem? hq)
  subst hc
  have hjl:j < i.size:=by rw [← hzl'];exact (List.getElem?_eq_some_iff.1 hj).1
  have hlt:=z65 hql hjl
  have:=hzv j v hj
  simp only [madeCells,Array.getD_eq_getD_getElem?]
  rw [Array.getElem?_map,Array.getElem?_range,if_pos hlt]
  simp only [Option.map_some,Option.getD_some]
  have hmod:(q*i.size+j) % zv.cells.size=j:=by rw [hzz,Nat.mul_comm,Nat.mul_add_mod,Nat.mod_eq_of_lt hjl]
  rw [hmod]
  refine VR.step st ?_
  simpa [List.getD_eq_getElem?_getD,Array.getElem?_eq_getElem (show j < zv.cells.size by omega),getElem!_pos zv.cells j (by omega)] using this
end
end Go.Abs

namespace Go.Abs
open Go
def KeepsB (W:List Nat)(h h1:AHeap):Prop:=h.next≤h1.next∧∀ id,h.used id→id ∉ W→h1.get id=h.get id
section
variable {W:List Nat}{h h1 h2:AHeap}
theorem KeepsB.refl:KeepsB W h h:=⟨Nat.le_refl _,fun _ _ _=>rfl⟩
theorem KeepsB.put (hk:KeepsB W h h1){nm:Nat}(hn:h.next≤nm)(x:AObj):KeepsB W h (h1.put nm x):=by
 refine ⟨z32 hk.1,fun id hu hw => ?_⟩
 rw [zn,if_neg (by have:=hu.1;omega)]
 exact hk.2 id hu hw
theorem KeepsB.setN (hk:KeepsB W h h1){nm:Nat}(hn:h.next≤nm)(x:Option AObj):KeepsB W h (h1.set nm x):=by
 refine ⟨hk.1,fun id hu hw => ?_⟩
 rw [zc,if_neg (by have:=hu.1;omega)]
 exact hk.2 id hu hw
theorem KeepsB.setW (hk:KeepsB W h h1){nm:Nat}(hn:nm∈W)(x:Option AObj):KeepsB W h (h1.set nm x):=by
 refine ⟨hk.1,fun id hu hw => ?_⟩
 have hne:id≠nm:=fun e=>hw (by rw [e];exact hn)
 rw [zc,if_neg hne]
 exact hk.2 id hu hw
theorem AC.wfU {P:Program}{f:Nat}{vs:List AV}{R:AV→AHeap→Prop}(hw:(∀ id x,h.get id=some x→h.used id)→AC P f vs h R):AC P f vs h R:=fun m w cargs hr=>hw hr.live m w cargs hr
theorem AE.wfU {P:Program}{f:Nat}{vs:List AV}{r:AV}(hw:(∀ id x,h.get id=some x→h.used id)→AE P f vs h r h1):AE P f vs h r h1:=AC.wfU hw
end
end Go.Abs

--abbrs off
namespace Go.Abs
open Go
theorem gKB {W:List Nat}{h h1:AHeap}(p:KeepsB W h h1:=by repeat first | exact KeepsB.refl | assumption | with_reducible refine KeepsB.keep ?_ _ | with_reducible refine KeepsB.put ?_ (by omega) _ | with_reducible refine KeepsB.setN ?_ (by omega) _ | with_reducible refine KeepsB.setW ?_ (by simp;done) _):KeepsB W h h1:=p
end Go.Abs


namespace Go.Proofs.YthblcmnhiccnhaaGreat
open Go Go.Abs

theorem z9p {h h2:AHeap}{o t s g:Nat}{L:List Iss}{S:List Bs}(hO:OrAt h o t s g L S)(h1:h2.get o=h.get o)(h3:h2.get t=h.get t)(h4:h2.get s=h.get s):OrAt h2 o t s g L S :=
 ⟨h1.trans hO.obj,h3.trans hO.tok,h4.trans hO.sums⟩
theorem zt0 (h:AHeap):∃ h1,newO h=h1∧OrAt h1 (h.next+1) (h.next+2) h.next 0 [] []∧(∀ nx,h.next=nx→h1.next=nx+3)∧(∀ id,id < h.next→h1.get id=h.get id)∧∀ h0:AHeap,Keeps h0 h→Keeps h0 h1 :=
 ⟨_,rfl,zsy h,fun nx hn=>by rw [zbl,hn],fun id hi=>zky h hi,fun h0 hk=>⟨by rw [zbl];exact Nat.le_trans hk.1 (by omega),fun id hu=>by rw [zky h (Nat.lt_of_lt_of_le hu.1 hk.1)];exact hk.2 id hu⟩⟩
theorem zhi {h:AHeap}{nx:Nat}(hn:h.next=nx):AE Tryz.prog 118 [] h (.ptr (nx+1) 0 0) (newO h):=by subst hn;exact zji h
theorem zr4 {h:AHeap}{nx:Nat}(hn:h.next=nx):∃ h1,newO h=h1∧OrAt h1 (nx+1) (nx+2) nx 0 [] []∧h1.next=nx+3∧(∀ id,id < nx→h1.get id=h.get id)∧∀ h0:AHeap,Keeps h0 h→Keeps h0 h1:=by
 subst hn
 obtain ⟨h1,a,b,c,d,e⟩:=zt0 h
 exact ⟨h1,a,b,c _ rfl,d,e⟩
theorem zuh {k:IntKind}{cells:List AV}(h:TypL [.i k] cells):∃ n:Int,cells=[.int k n]∧(Lit.int k n).wf=true:=by
 obtain ⟨v,vs,rfl,h1,h2⟩:=h.cons_inv
 obtain rfl:=h2.nil_inv
 obtain ⟨x,rfl,hw⟩:=h1.int_inv
 exact ⟨x,rfl,hw⟩
theorem zt1 {cells:List AV}(h:TypL [.i .u8] cells):∃ b:UInt8,cells=encB b:=by
 obtain ⟨n,rfl,hw⟩:=zuh h
 have hn:0≤n∧n < 256:=by
  have:=hw
  simp only [Lit.wf,Bool.and_eq_true,decide_eq_true_eq] at this
  have m1:IntKind.u8.min=0:=by decide
  have m2:IntKind.u8.max=255:=by decide
  omega
 refine ⟨UInt8.ofNat n.toNat,?_⟩
 simp only [encB,List.cons.injEq,AV.int.injEq,true_and,and_true]
 have:(UInt8.ofNat n.toNat).toNat=n.toNat:=by
  rw [UInt8.toNat_ofNat'];omega
 rw [this];omega
end Go.Proofs.YthblcmnhiccnhaaGreat


namespace Go.Proofs.YthblcmnhiccnhaaGreat
open Go Go.Abs

@[simp] theorem putB_lenS (v:Int):(putB v 8).length=8:=z9n v
theorem zr5 {u:Nat→Prop}{id g:Nat}(hu:u id)(l:Bs):Clo u (.app id g 1 (l.map encB)) := .app _ _ _ _ hu fun x hx v hv=>by
 obtain ⟨b,_,rfl⟩:=List.mem_map.1 hx
 rcases List.mem_singleton.1 (show v∈[AV.int .u8 (b.toNat:Int)] from hv) with rfl
 exact .int _ _
theorem zl2 {h:AHeap}{nx:Nat}(hn:h.next=nx)(v:Int):AE Tryz.prog 173 [.int .u64 v,.int .i64 8] h (.app (nx+1) 0 1 ((putB v 8).map encB)) (h.put (nx+1) (.tail 0 8)):=by
 subst hn
 refine AE.wf fun hwf => ?_
 have hno:h.get h.next=none:=by
  cases hg:h.get h.next with
  | none => rfl
  | some x => exact absurd (hwf _ _ hg) (Nat.lt_irrefl _)
 refine AE.effW zdj (by simp) (Ext.put Ext.refl trivial) ?_
 unfold z9j;dsimp only [qQ,qR,qM,qG]
 (refine go ?_)
 refine WW.loopE (fun (i:Nat)=>[(0,some (.int .u64 v)),(1,some (.int .i64 8)),(5,some (.ref h.next 0 8)),(16,some (.int .i64 8)),(17,some (.int .i64 i))])
  (fun i h'=>h'.get h.next=some (.mem 1 ((List.range 8).map fun k=>if k < i then encB (zfl v 8 k) else [.int .u8 0]))∧h'.next=h.next+1∧Keeps h h'∧i≤8) (fun i=>8 - i) 0 gSUB ⟨?_,gN,gK,by omega⟩ ?_
 ·rw [← zbf (x:=[.int .u8 0]) (by intros;rfl)]
  exact gH
 rintro i h' ⟨g1,g4,g2,g3⟩
 (refine go ?_)
 (refine WW.ifB rfl (fun hz3 => ?_) (fun hz3 => ?_))
 ·(refine go ?_)
  have e1:(8:Int)*((8:Int) - 1 - (i:Int))=((8*(8 - 1 - i):Nat):Int):=by omega
  refine WL.auto (Stp.sh rfl rfl (znh e1 (by omega)) gM) ?_
  refine WL.auto (Stp.conv rfl (zig v) gM) ?_
  (refine go ?_)
  refine ⟨i+1,gSUB,⟨?_,gN,gK,by omega⟩,by omega⟩
  rw [za,Nat.zero_add,zeb (by simp [putC,AV.cs,encB])]
 ·(refine go ?_)
  rw [zec (by omega)] at g1
  refine WW.cvt (Cvt.grow (s:=4) (c':=(putB v 8).map encB) rfl g1 (by rw [putB,if_neg (by decide),List.map_map];exact List.take_of_length_le (by simp)) g4) ?_
  refine WW.ret (EffQ.finD ?_ ?_)
  ·refine ⟨by simp only [AHeap.put,AHeap.set,g4];split <;> split <;> omega,fun id hu => ?_⟩
   simp only [zn,zc]
   split
   ·rfl
   ·rename_i h1
    split
    ·rename_i e;subst e;exact hno.symm
    ·rename_i h2
     have h3:=hu.1
     simp only [AHeap.put] at h3
     refine g2.2 id ⟨by split at h3 <;> omega,?_⟩
     have h4:=hu.2
     simp only [AHeap.put] at h4
     rw [if_neg h1] at h4
     exact h4
  ·exact .clo _ (zr5 z2 _)

theorem z1e (p:Pr)(h:AHeap):AE Tryz.prog 232 [.agg (encP p)] h (.imm 1 ((pairB p).map encB)) h:=by
 refine AE.pureW zjh (by simp) ?_
 unfold zbk;dsimp only [qQ,qR,qM,qG]
 (repeat first | refine WL.go ?_ | refine WW.seq ?_ | refine WW.reg ?_ | refine WL.nil ?_ | refine WW.skip ?_ | refine WW.block ?_ | refine WW.exit ?_ | refine WW.condT rfl ?_ | refine WW.condF rfl ?_ | refine WL.gox ?_ | refine thenN ?_ | refine blkN ?_)
 refine WW.dregX [2,6] [1,4] [] gN (by decide +kernel) ?_
 (refine go ?_)
 refine DW.callSW rfl gM gSL rfl rfl (fun hp=>by repeat first | exact hp | refine PhiW.put (by omega) ?_ | refine PhiW.setN (by omega) ?_ | refine PhiW.setW (by simp;done) ?_) (zl2 (nx:=h.next+1) gN _) ?_
 (refine go ?_)
 refine DW.callS rfl gM gSL rfl (zu p.2 8 _ (by decide)) ?_
 (refine go ?_)
 refine WW.ret (PureQ.finD ?_)
 rw [show List.map encB (putB p.1 8)++List.map encB (putB p.2 (Int.toNat 8))=(pairB p).map encB by simp [pairB]]
 exact z83 rfl (flatB _)

def idC (o:Nat):List AV:=[.func (.func 119) [.ptr o 0 0] [],.func (.func 120) [.ptr o 0 0] [],.func (.func 121) [.ptr o 0 0] [],.func (.func 116) [.ptr o 0 0] [],.func (.func 117) [.ptr o 0 0] []]
structure IdAt (h:AHeap)(l o t s g:Nat)(L:List Iss)(S:List Bs):Prop where
 cells:h.get l=some (.mem 5 [idC o])
 ora:OrAt h o t s g L S
theorem zjk {h:AHeap}{nx:Nat}(hn:h.next=nx):AE Tryz.prog 65 [] h (.ptr (nx+3) 0 0) ((newO h).put (nx+3) (.mem 5 [idC (nx+1)])):=by
 subst hn
 refine AC.introW zjf (by simp) ?_
 unfold zbi;dsimp only [qQ,qR,qM,qG]
 (refine go ?_)
 refine WL.call rfl gM gSL (zhi rfl) ?_
 have hn:=zbl h
 generalize newO h=h1 at *
 (refine go ?_)
 exact WW.ret ⟨.inl rfl,_,gRES,rfl,rfl⟩
theorem zt2 {h:AHeap}{nx:Nat}(hn:h.next=nx):∃ h1,(newO h).put (nx+3) (.mem 5 [idC (nx+1)])=h1∧IdAt h1 (nx+3) (nx+1) (nx+2) nx 0 [] []∧h1.next=nx+4∧(∀ id,id < nx→h1.get id=h.get id)∧∀ h0:AHeap,Keeps h0 h→Keeps h0 h1:=by
 obtain ⟨h1,e1,o1,n1,m1,k1⟩:=zr4 hn
 rw [e1]
 refine ⟨_,rfl,⟨gH,(z9p o1 gE gE gE)⟩,z2k n1,fun id hi=>(z3 (by omega) rfl).trans (m1 id hi),fun h0 hk => ?_⟩
 have:=k1 h0 hk
 have h2:=hk.1
 exact this.put (by omega) _

theorem zl3 {h:AHeap}{l o t s g:Nat}{L:List Iss}{S:List Bs}(hl:IdAt h l o t s g L S)(hS:S.length≤1000000)(rows:List Bs)(hr1:rows.length≤1000000)(hr2:rows.flatten.length≤1000000) :
  AE Tryz.prog 281 [.ptr l 0 0,.imm 1 (rows.map encR)] h (.agg (encP (eees,(sumN S rows.flatten:Int)))) (h.set s (some (.map (encM (sumS S rows.flatten))))):=by
 obtain ⟨q0,hO⟩:=hl
 obtain ⟨q1,q2,q3⟩:=id hO
 refine AE.wf fun hwf => ?_
 have h0:=hwf _ _ q0
 have ho:=hwf _ _ q1
 have ht:=hwf _ _ q2
 have hs:=hwf _ _ q3
 refine AE.effW z6k (by simp) (Ext.set (x := .map _) Ext.refl (Nm.old q3) (zef _)) ?_
 unfold z40;dsimp only [qQ,qR,qM,qG]
 simp only [idC] at q0
 (refine go ?_)
 have hcon:=zjj (h:=h.put h.next (.mem 2 [[.int .u64 0,.int .u64 0]])) (z9p hO gE gE gE) hS rows hr1 hr2
 generalize rows.flatten=key at *
 refine WL.fx1 (FX.callv rfl rfl gM (by kernel_rfl) hcon) ?_
 (refine go ?_)
 refine WW.ret (EffQ.finD ?_ ?_)
 ·refine ⟨gLE,fun id hu => ?_⟩;have hlt:id < AHeap.next h:=hu.1;simp only [zn,zc];(repeat' split) <;> first | rfl | omega | (simp [putM];done)
 ·exact .clo _ (.agg _ fun v hv=>z13 (by
   simp only [encP,List.mem_cons,List.not_mem_nil,or_false] at hv
   rcases hv with rfl | rfl <;> rfl))
end Go.Proofs.YthblcmnhiccnhaaGreat


namespace Go.Proofs.YthblcmnhiccnhaaGreat
open Go Go.Abs

structure RowS where
 i:Nat
 o:Pr
def evS (h:Pr)(o x:Pr):Pr:=mulF (addF x o) h
theorem zt3 (h:Pr)(l:List Pr):evalF h l=l.foldl (evS h) (0,0):=rfl
attribute [local irreducible] mulF addF
theorem zjl (k:Pr)(l:List Pr)(hl:l.length≤1000000)(h:AHeap):AE Tryz.prog 235 [.agg (encP k),.imm 2 (l.map encP)] h (.agg (encP (evalF k l))) h:=by
 refine AE.pureW zja (by simp) ?_
 unfold zbb;dsimp only [qQ,qR,qM,qG]
 (refine go ?_)
 refine WW.loopE (fun (s:RowS)=>[(2,some (.ptr h.next 0 0)),(4,some (.ptr (h.next+1) 0 0)),(5,some (.ptr (h.next+2) 0 0)),(8,some (.imm 2 (l.map encP))),(9,some (.int .i64 l.length)),(10,some (.int .i64 s.i))])
  (fun s h'=>h'.get h.next=some (.mem 2 [encP k])∧h'.get (h.next+1)=some (.mem 2 [encP (0,0)])∧h'.get (h.next+2)=some (.mem 2 [encP s.o])∧h.next+3≤h'.next∧Keeps h h'∧s.i≤l.length∧evalF k l=(l.drop s.i).foldl (evS k) s.o) (fun s=>l.length - s.i) ⟨0,(0,0)⟩ gSUB ⟨gH,gH,gH,(leN gN (by omega)),gK,Nat.zero_le _,by simp [zt3]⟩ ?_
 rintro ⟨i,o⟩ h' ⟨g1,g2,g3,g4,g5,g6,g7⟩
 simp only at g1 g2 g3 g4 g5 g6 g7 ⊢
 (refine go ?_)
 (refine WW.ifB rfl (fun hz1 => ?_) (fun hz1 => ?_))
 ·have hi:i < l.length:=by omega
  (refine go ?_)
  refine DW.callS rfl gM gSL rfl (z6j l[i] o _) ?_
  (refine go ?_)
  refine DW.callS rfl gM gSL rfl (zkw (addF l[i] o) k _) ?_
  (refine go ?_)
  refine ⟨⟨i+1,evS k o l[i]⟩,gSUB,⟨gH,gH,gH,(leN gN (by omega)),gK,hi,?_⟩,(by show l.length - (i+1) < l.length - i;omega)⟩
  rw [g7,List.drop_eq_getElem_cons hi];rfl
 ·have hi:i=l.length:=by omega
  (refine go ?_)
  refine WW.ret (PureQ.finD ?_)
  rw [g7,hi,List.drop_length]
  exact zd rfl (flatP _)
theorem zoj {h h':AHeap}{x:AObj}(hk:Keeps h h')(hg:h'.get h.next=some x)(hn:h.next+1≤h'.next):Keeps (h.put h.next x) h':=by
 refine ⟨by rw [z4m];exact hn,fun id hu => ?_⟩
 by_cases e:id=h.next
 ·subst e;rw [hg];exact get_put_same.symm
 ·rw [z3 e rfl]
  exact hk.2 id ⟨by have:=hu.1;rw [z4m] at this;omega,by have:=hu.2;simp only [AHeap.put] at this;rwa [if_neg e] at this⟩
attribute [local irreducible] encF
theorem zdl (key:Pr)(n:Nn)(h:AHeap):AE Tryz.prog 168 [.agg (encP key),.agg (encN n)] h (.agg (encP (subF key n))) h:=by
 refine AE.pureW zmi (by simp) ?_
 unfold zfd;dsimp only [qQ,qR,qM,qG]
 (refine go ?_)
 refine WL.call rfl gM gSL (z1c key (o64 (shl64 (IntKind.u64.wrap n.1) 32) (IntKind.u64.wrap n.2.1),n.2.2) _) ?_
 (refine go ?_)
 refine WW.ret (PureQ.finD ?_)
 exact zd rfl (flatP _)
end Go.Proofs.YthblcmnhiccnhaaGreat



/- Joined. -/
import Derived.Test.YtfgooaploagiaaaGreatPG3
import Derived.Test.YtfgooaploagiaaaGreatProg
set_option linter.unusedSimpArgs false
set_option linter.unusedVariables false
set_option maxRecDepth 10000
section
namespace Go.Ab
open Go.Proofs Go.Sc
set_option maxRecDepth 100000
abbrev C133_0 := Ro [Br 3 t1,As 4 (kI 0)]
abbrev C133_1 := Dr [Mv 5 t0,Nc 6 t5,Fa 7 0 t6,Ld 8 none t7,Mv 9 t0,Nc 10 t9,Fa 11 0 t10,Ld 12 none t11,Nc 13 t12,Fa 14 1 t13,Ld 15 none t14,Ld 16 (some 6) t3,⟨(some 17),none,.e (.bsr 1 [zi,zi,zi,z4,zi,zi] [(0,6,t16)])⟩,Ap 18 6 48 t15 t17,Nc 19 t8,Fa 20 1 t19,Sxn 1 t20 t18] [[],[0],[1],[2],[],[4],[5],[6],[7],[8],[9],[],[11],[10,12],[3,0,1,2,3,4,5,6,7,8,9,10,11,12,13],[14,0,1,2,3,4,5,6,7,8,9,10,11,12,13],[15,13,13,0,1,2,3,4,5,6,7,8,9,10,11,12,13]] [(0,[]),(1,[]),(2,[]),(3,[]),(4,[]),(5,[]),(6,[]),(7,[]),(8,[]),(9,[]),(10,[]),(11,[]),(12,[0,1,2,3,4,5,6,7,8,9,10]),(13,[0,1,2,3]),(14,[]),(15,[]),(16,[])]
abbrev C133_2 := Ro [Mv 21 t0,Nc 22 t21,Fa 23 0 t22,Ld 24 none t23,Nc 25 t24,Fa 26 1 t25,Ld 27 none t26,Ln 28 t27,Bn 29 .sub t28 (kI 1),As 4 t29]
abbrev C133_3 := Sq [4] C133_2 .ret
abbrev C133_4 := Sq [0] C133_1 C133_3
abbrev C133_5 := Sq [0,3] C133_0 C133_4
abbrev C133 := C133_5
abbrev C133r : List RV := [.t 4]
theorem C133ok : Okf Tryz.prog 133 Tryz.f133 C133 C133r := ⟨Tryz.func133, by kernel_rfl, by kernel_rfl, by kernel_rfl⟩

abbrev C134_0 := Ro [Br 3 t1,As 4 (kI 0)]
abbrev C134_1 := Ro [As 5 (kI 0),As 6 (kI (-1))]
abbrev C134_2 := Ro [Fa 8 0 t3,Ld 9 none t8,Bn 10 .eql t9 (kI 4)]
abbrev C134_3 := Ro [Mv 11 t0,Nc 12 t11,Fa 13 2 t12,Ld 14 none t13,As 5 t14]
abbrev C134_4 := Cd t10 C134_3 .skip
abbrev C134_5 := Sq [0,3,5,6,10] C134_2 C134_4
abbrev C134_6 := Ro [Mv 15 t0,Nc 16 t15,Fa 17 0 t16,Ld 18 none t17,Nc 19 t18,Fa 20 1 t19,Ld 21 none t20,Ln 22 t21,Mv 23 (kI 0)]
abbrev C134_7 := Ro [Bn 24 .lss t23 t22]
abbrev C134_8 := Cd t24 .skip (.exit 0)
abbrev C134_9 := Ro [Mv 25 t23,As 7 t25]
abbrev C134_10 := Dr [Mv 26 t7,Mv 27 t5,Bn 28 .lss t26 t27,Mv 29 t28,Mvf 30 29 t0,Ncf 31 29 t30,Faf 32 29 0 t31,Ldf 33 29 none t32,Ncf 34 29 t33,Faf 35 29 1 t34,Ldf 36 29 none t35,Mvf 37 29 t7,Ixf 38 29 6 t36 t37,Ldf 39 29 (some 6) t38,Ldf 40 29 (some 6) t3,Caf 41 29 153 [t39,t40],Unf 42 29 .not t41,Pk 43 t29 kT t42] [[],[],[0,1],[2],[3],[4,3],[5,3],[6,3],[7,3],[8,3],[9,3],[3],[10,11,3],[12,3],[3],[13,14,3,3],[15,3],[3,16]] [(0,[]),(1,[]),(2,[]),(3,[]),(4,[]),(5,[]),(6,[]),(7,[]),(8,[]),(9,[]),(10,[]),(11,[]),(12,[]),(13,[]),(14,[]),(15,[]),(16,[]),(17,[])]
abbrev C134_11 := Cd t43 (.exit 1) .skip
abbrev C134_12 := Sq [0,3,5,6,7,22,23,43] C134_10 C134_11
abbrev C134_13 := Ro [Mv 44 t7,As 6 t44]
abbrev C134_14 := Sq [6] C134_13 (.exit 0)
abbrev C134_15 := Sq [7] C134_12 C134_14
abbrev C134_16 := Sq [0,3,5,6,7,22,23] C134_9 C134_15
abbrev C134_17 := Bk 1 C134_16
abbrev C134_18 := Ro [Bn 45 .add t23 (kI 1),Mv 23 t45]
abbrev C134_19 := Sq [0,3,5,6,22,23] C134_17 C134_18
abbrev C134_20 := Sq [0,3,5,6,22,23] C134_8 C134_19
abbrev C134_21 := Sq [0,3,5,6,22,23,24] C134_7 C134_20
abbrev C134_22 : ACode := .loop C134_21
abbrev C134_23 := Bk 0 C134_22
abbrev C134_24 := Sq [0,3,5,6,22,23] C134_6 C134_23
abbrev C134_25 := Ro [Mv 46 t6,As 4 t46]
abbrev C134_26 := Sq [4] C134_25 .ret
abbrev C134_27 := Sq [6] C134_24 C134_26
abbrev C134_28 := Sq [0,3,5,6] .lab C134_27
abbrev C134_29 := Sq [0,3,5,6] C134_5 C134_28
abbrev C134_30 := Sq [0,3,5,6] C134_1 C134_29
abbrev C134_31 : ACode := .scp C134_30
abbrev C134_32 := Sq [0,3] C134_0 C134_31
abbrev C134 := C134_32
abbrev C134r : List RV := [.t 4]
theorem C134ok : Okf Tryz.prog 134 Tryz.f134 C134 C134r := ⟨Tryz.func134, by kernel_rfl, by kernel_rfl, by kernel_rfl⟩

abbrev C135_0 := Ro [Ld 3 none t1,Mv 4 t0,Ix 5 1 t3 t4,Sxn 1 t5 (kI 1)]
abbrev C135 := C135_0
abbrev C135r : List RV := []
theorem C135ok : Okf Tryz.prog 135 Tryz.f135 C135 C135r := ⟨Tryz.func135, by kernel_rfl, by kernel_rfl, by kernel_rfl⟩

abbrev C136_0 := Ro [⟨(some 3),none,.e (.box t1)⟩,Al 4 [zi,zi,zi,z4,zi,zi]]
abbrev C136_1 := Ro [Fa 5 0 t3,Ld 6 none t5]
abbrev C136_2 := Ro [Bn 8 .eql t6 (kI 3),As 7 t8]
abbrev C136_3 := Ro [Bn 9 .eql t6 (kI 5),As 7 t9]
abbrev C136_4 := Ro [Bn 10 .eql t6 (kI 6),As 7 t10]
abbrev C136_5 := Cd t7 .skip C136_4
abbrev C136_6 := Sq [0,3,4,6,7] C136_3 C136_5
abbrev C136_7 := Cd t7 .skip C136_6
abbrev C136_8 := Sq [0,3,4,6,7] C136_2 C136_7
abbrev C136_9 := Cd t7 (.exit 1) .skip
abbrev C136_10 := Sq [0,3,4,6,7] C136_8 C136_9
abbrev C136_11 := Ro [Bn 12 .eql t6 (kI 4),As 11 t12]
abbrev C136_12 := Cd t11 (.exit 2) .skip
abbrev C136_13 := Sq [0,3,4,11] C136_11 C136_12
abbrev C136_14 := Sq [0,3,4,6] C136_10 C136_13
abbrev C136_15 := Sq [3,4] C136_14 (.exit 0)
abbrev C136_16 := Bk 1 C136_15
abbrev C136_17 := Dr [Mv 13 t0,Nc 14 t13,Fa 15 1 t14,Ld 16 none t15,Fa 17 2 t3,Ld 18 none t17,Ix 19 1 t16 t18,Ld 20 none t19,Fa 21 2 t3,Sxn 1 t21 t20] [[],[0],[1],[2],[],[4],[3,5],[6],[0,1,2,3,4,5,6,7],[8,7,0,1,2,3,4,5,6,7]] [(0,[]),(1,[]),(2,[]),(3,[]),(4,[]),(5,[]),(6,[]),(7,[]),(8,[]),(9,[])]
abbrev C136_18 := Sq [0,3,4] C136_16 C136_17
abbrev C136_19 := Bk 2 C136_18
abbrev C136_20 := Dr [Mv 22 t0,Nc 23 t22,Fa 24 1 t23,Ld 25 none t24,Fa 26 1 t3,Ld 27 none t26,Ix 28 1 t25 t27,Ld 29 none t28,Fa 30 1 t3,Sxn 1 t30 t29] [[],[0],[1],[2],[],[4],[3,5],[6],[0,1,2,3,4,5,6,7],[8,7,0,1,2,3,4,5,6,7]] [(0,[]),(1,[]),(2,[]),(3,[]),(4,[]),(5,[]),(6,[]),(7,[]),(8,[]),(9,[])]
abbrev C136_21 := Sq [3,4] C136_20 (.exit 0)
abbrev C136_22 := Sq [0,3,4] C136_19 C136_21
abbrev C136_23 := Bk 0 C136_22
abbrev C136_24 := Sq [0,3,4,6] C136_1 C136_23
abbrev C136_25 := Ro [Ld 31 (some 6) t3,Sxn 6 t4 t31]
abbrev C136_26 := Sq [4] C136_25 .ret
abbrev C136_27 := Sq [3,4] C136_24 C136_26
abbrev C136_28 := Sq [0,3,4] C136_0 C136_27
abbrev C136 := C136_28
abbrev C136r : List RV := [.c 4 (some 6)]
theorem C136ok : Okf Tryz.prog 136 Tryz.f136 C136 C136r := ⟨Tryz.func136, by kernel_rfl, by kernel_rfl, by kernel_rfl⟩

abbrev C137_0 := Ro [Br 3 t1,As 4 (kI 0)]
abbrev C137_1 : ACode := .dregt [Mv 14 t0,Nc 15 t14,Fa 16 0 t15,Ld 17 none t16,Nc 18 t17,Fa 19 1 t18,Ld 20 none t19,Fa 21 1 t3,Ld 22 none t21,Ix 23 6 t20 t22,Ld 24 (some 6) t23,Mv 25 t0,Nc 26 t25,Fa 27 0 t26,Ld 28 none t27,Nc 29 t28,Fa 30 1 t29,Ld 31 none t30,Fa 32 2 t3,Ld 33 none t32,Ix 34 6 t31 t33,Ld 35 (some 6) t34,Al 5 [zi,zi,zi,z4,zi,zi],Al 6 [zi,zi,zi,z4,zi,zi],Sxn 6 t5 t24,Sxn 6 t6 t35] [[],[0],[1],[2],[3],[4],[5],[],[7],[6,8],[9],[],[11],[12],[13],[14],[15],[16],[],[18],[17,19],[20],[],[],[22,10,0,1,2,3,4,5,6,7,8,9,10,22,23],[23,21,24,0,1,2,3,4,5,6,7,8,9,10,11,12,13,14,15,16,17,18,19,20,21,22,23,24]] (.r 0 (.r 1 (.r 2 (.r 3 (.r 4 (.r 5 (.r 6 (.r 7 (.r 8 (.r 9 (.r 10 (.r 11 (.r 12 (.r 13 (.r 14 (.r 15 (.r 16 (.r 17 (.r 18 (.r 19 (.r 20 (.r 21 (.e 22 [0,1,2,3,4,5,6,7,8,9,10,11,12,13,14,15,16,17,18,19,20,21] (.e 23 [0,1,2,3,4,5,6,7,8,9,10,11,12,13,14,15,16,17,18,19,20,21] (.e 24 [11,12,13,14,15,16,17,18,19,20,21] (.e 25 [] .nil .nil) .nil) .nil) (.e 23 [0,1,2,3,4,5,6,7,8,9,10,11,12,13,14,15,16,17,18,19,20,21] (.e 22 [0,1,2,3,4,5,6,7,8,9,10,11,12,13,14,15,16,17,18,19,20,21] (.e 24 [11,12,13,14,15,16,17,18,19,20,21] (.e 25 [] .nil .nil) .nil) .nil) .nil))))))))))))))))))))))))
abbrev C137_2 := Ro [Fa 36 3 t3,Ld 37 none t36,Cv 38 .i64 t37,As 7 t38]
abbrev C137_3 := Ro [Fa 39 0 t5,Ld 40 none t39,Bn 41 .eql t40 (kI 2),Mv 42 t41,Fat 43 42 0 t6,Ldt 44 42 none t43,Bnt 45 42 .eql t44 (kI 2),Pk 46 t42 t45 kF]
abbrev C137_4 := Ro [Mv 48 t7,Fa 49 3 t5,Ld 50 none t49,Fa 51 3 t6,Ld 52 none t51,Ca 53 154 [t48,t50,t52],Mv 47 t53,Ex 54 0 t47,Ex 55 1 t47,As 8 t54,As 9 t55]
abbrev C137_5 := Ro [Mv 56 t8,Ca 57 155 [t56],As 4 t57]
abbrev C137_6 := Sq [4] C137_5 .ret
abbrev C137_7 := Sq [8] C137_4 C137_6
abbrev C137_8 := Cd t46 C137_7 .skip
abbrev C137_9 := Sq [0,3,5,6,7,46] C137_3 C137_8
abbrev C137_10 := Ro [Fa 58 1 t3,Ld 59 none t58,Fa 60 2 t3,Ld 61 none t60,Bn 62 .eql t59 t61]
abbrev C137_11 := Ro [Mv 64 t7,Ca 65 154 [t64,(kU 0),(kU 0)],Mv 63 t65,Ex 66 0 t63,Ex 67 1 t63,As 10 t66,As 11 t67]
abbrev C137_12 := Ro [Mv 68 t10,Ca 69 155 [t68],As 4 t69]
abbrev C137_13 := Sq [4] C137_12 .ret
abbrev C137_14 := Sq [10] C137_11 C137_13
abbrev C137_15 := Cd t62 C137_14 .skip
abbrev C137_16 := Sq [0,3,7,62] C137_10 C137_15
abbrev C137_17 := Ro [Mv 70 t0,Nc 71 t70,Fa 72 0 t71,Ld 73 none t72,Nc 74 t73,Fa 75 1 t74,Ld 76 none t75,Ln 77 t76,Mv 78 (kI 0)]
abbrev C137_18 := Ro [Bn 79 .lss t78 t77]
abbrev C137_19 := Cd t79 .skip (.exit 0)
abbrev C137_20 := Ro [Ix 80 6 t76 t78,Ld 81 (some 6) t80,Al 13 [zi,zi,zi,z4,zi,zi],Sxn 6 t13 t81]
abbrev C137_21 := Ro [Fa 82 0 t13,Ld 83 none t82,Bn 84 .neq t83 (kI 6),Mv 85 t84,Faf 86 85 1 t13,Ldf 87 85 none t86,Faf 88 85 1 t3,Ldf 89 85 none t88,Bnf 90 85 .neq t87 t89,Pk 91 t85 kT t90,Mv 92 t91,Faf 93 92 2 t13,Ldf 94 92 none t93,Faf 95 92 2 t3,Ldf 96 92 none t95,Bnf 97 92 .neq t94 t96,Pk 98 t92 kT t97]
abbrev C137_22 := Cd t98 (.exit 1) .skip
abbrev C137_23 := Sq [3,7,13,76,77,78,98] C137_21 C137_22
abbrev C137_24 := Ro [Fa 99 3 t13,Ld 100 none t99,Cv 101 .i64 t100]
abbrev C137_25 := Ro [Mv 103 t7,Bn 104 .eql t101 t103,As 102 t104]
abbrev C137_26 := Ro [As 4 (kI 1)]
abbrev C137_27 := Sq [4] C137_26 .ret
abbrev C137_28 := Ro [Mv 106 t7,Ca 107 156 [t106],Bn 108 .eql t101 t107,As 105 t108]
abbrev C137_29 := Ro [As 4 (kI 2)]
abbrev C137_30 := Sq [4] C137_29 .ret
abbrev C137_31 := Cd t105 C137_30 .skip
abbrev C137_32 := Sq [3,7,76,77,78,105] C137_28 C137_31
abbrev C137_33 := Cd t102 C137_27 C137_32
abbrev C137_34 := Sq [3,7,76,77,78,101,102] C137_25 C137_33
abbrev C137_35 := Bk 2 C137_34
abbrev C137_36 := Sq [3,7,76,77,78,101] C137_24 C137_35
abbrev C137_37 := Sq [3,7,13,76,77,78] C137_23 C137_36
abbrev C137_38 : ACode := .fz 13 C137_37
abbrev C137_39 := Sq [3,7,13,76,77,78] C137_20 C137_38
abbrev C137_40 := Bk 1 C137_39
abbrev C137_41 := Ro [Bn 109 .add t78 (kI 1),Mv 78 t109]
abbrev C137_42 := Sq [3,7,76,77,78] C137_40 C137_41
abbrev C137_43 := Sq [3,7,76,77,78] C137_19 C137_42
abbrev C137_44 := Sq [3,7,76,77,78,79] C137_18 C137_43
abbrev C137_45 : ACode := .loop C137_44
abbrev C137_46 := Bk 0 C137_45
abbrev C137_47 := Sq [3,7,76,77,78] C137_17 C137_46
abbrev C137_48 := Ro [As 4 (kI 0)]
abbrev C137_49 := Sq [4] C137_48 .ret
abbrev C137_50 := Sq [] C137_47 C137_49
abbrev C137_51 := Sq [0,3,7] C137_16 C137_50
abbrev C137_52 := Sq [0,3,7] C137_9 C137_51
abbrev C137_53 := Sq [0,3,5,6,7] C137_2 C137_52
abbrev C137_54 := Sq [0,3,5,6] C137_1 C137_53
abbrev C137_55 := Sq [0,3] C137_0 C137_54
abbrev C137 := C137_55
abbrev C137r : List RV := [.t 4]
theorem C137ok : Okf Tryz.prog 137 Tryz.f137 C137 C137r := ⟨Tryz.func137, by kernel_rfl, by kernel_rfl, by kernel_rfl⟩

abbrev C138_0 := Ro [Fa 7 0 t1,Ld 8 none t7,Mv 9 t0,Ix 10 1 t8 t9,Ld 11 none t10]
abbrev C138_1 := Cd t11 .ret .skip
abbrev C138_2 := Sq [0,1,2,3,11] C138_0 C138_1
abbrev C138_3 := Ro [Fa 12 0 t1,Ld 13 none t12,Mv 14 t0,Ix 15 1 t13 t14,Sxn 1 t15 kT]
abbrev C138_4 := Ro [Ld 16 none t2,Nc 17 t16,Fa 18 1 t17,Ld 19 none t18,Mv 20 t0,Ix 21 6 t19 t20,Ld 22 (some 6) t21,Ca 23 127 [t22],Ln 24 t23,Mv 25 (kI 0)]
abbrev C138_5 := Ro [Bn 26 .lss t25 t24]
abbrev C138_6 := Cd t26 .skip (.exit 0)
abbrev C138_7 := Ro [Ix 27 1 t23 t25,Ld 28 none t27,As 6 t28]
abbrev C138_8 := Ro [Ld 29 none t3,Mv 30 t6,⟨(some 31),none,.e (.callv t29 [t30])⟩]
abbrev C138_9 := Sq [3,6,23,24,25] C138_7 C138_8
abbrev C138_10 := Bk 1 C138_9
abbrev C138_11 := Ro [Bn 32 .add t25 (kI 1),Mv 25 t32]
abbrev C138_12 := Sq [3,23,24,25] C138_10 C138_11
abbrev C138_13 := Sq [3,23,24,25] C138_6 C138_12
abbrev C138_14 := Sq [3,23,24,25,26] C138_5 C138_13
abbrev C138_15 : ACode := .loop C138_14
abbrev C138_16 := Bk 0 C138_15
abbrev C138_17 := Sq [3,23,24,25] C138_4 C138_16
abbrev C138_18 := Sq [0,2,3] C138_3 C138_17
abbrev C138_19 := Sq [0,1,2,3] C138_2 C138_18
abbrev C138 := C138_19
abbrev C138r : List RV := []
theorem C138ok : Okf Tryz.prog 138 Tryz.f138 C138 C138r := ⟨Tryz.func138, by kernel_rfl, by kernel_rfl, by kernel_rfl⟩

abbrev C139_0 := Ro [Fa 8 1 t1,Ld 9 none t8,Mv 10 t0,Ix 11 1 t9 t10,Sxn 1 t11 kT]
abbrev C139_1 := Ro [Ld 12 none t2,Nc 13 t12,Fa 14 2 t13,Ld 15 none t14,Mv 16 t0,Ix 17 5 t15 t16,Ld 18 (some 5) t17,Al 5 [zi,z4,zi,zi,.nils],Sxn 5 t5 t18]
abbrev C139_2 := Ro [Fa 19 2 t5,Ld 20 none t19,Bn 21 .neq t20 (kI (-1))]
abbrev C139_3 := Ro [Ld 22 none t3,Fa 23 2 t5,Ld 24 none t23,⟨(some 25),none,.e (.callv t22 [t24])⟩]
abbrev C139_4 := Cd t21 C139_3 .skip
abbrev C139_5 := Sq [2,3,5,21] C139_2 C139_4
abbrev C139_6 := Ro [Fa 26 4 t5,Ld 27 none t26,Ln 28 t27,Mv 29 (kI 0)]
abbrev C139_7 := Ro [Bn 30 .lss t29 t28]
abbrev C139_8 := Cd t30 .skip (.exit 0)
abbrev C139_9 := Ro [Ix 31 2 t27 t29,Ld 32 (some 2) t31,Al 7 [.int .i64 0,.int .i64 0],Sxn 2 t7 t32]
abbrev C139_10 := Ro [Ld 33 none t2,Ld 34 (some 2) t7,Ca 35 140 [t33,t34],Un 36 .not t35]
abbrev C139_11 := Ro [Ld 37 none t3,Fa 38 1 t7,Ld 39 none t38,⟨(some 40),none,.e (.callv t37 [t39])⟩]
abbrev C139_12 := Cd t36 C139_11 .skip
abbrev C139_13 := Sq [2,3,7,27,28,29,36] C139_10 C139_12
abbrev C139_14 : ACode := .fz 7 C139_13
abbrev C139_15 := Sq [2,3,7,27,28,29] C139_9 C139_14
abbrev C139_16 := Bk 1 C139_15
abbrev C139_17 := Ro [Bn 41 .add t29 (kI 1),Mv 29 t41]
abbrev C139_18 := Sq [2,3,27,28,29] C139_16 C139_17
abbrev C139_19 := Sq [2,3,27,28,29] C139_8 C139_18
abbrev C139_20 := Sq [2,3,27,28,29,30] C139_7 C139_19
abbrev C139_21 : ACode := .loop C139_20
abbrev C139_22 := Bk 0 C139_21
abbrev C139_23 := Sq [2,3,27,28,29] C139_6 C139_22
abbrev C139_24 := Sq [2,3,5] C139_5 C139_23
abbrev C139_25 : ACode := .fz 5 C139_24
abbrev C139_26 := Sq [2,3,5] C139_1 C139_25
abbrev C139_27 := Sq [0,2,3] C139_0 C139_26
abbrev C139 := C139_27
abbrev C139r : List RV := []
theorem C139ok : Okf Tryz.prog 139 Tryz.f139 C139 C139r := ⟨Tryz.func139, by kernel_rfl, by kernel_rfl, by kernel_rfl⟩

abbrev C140_0 := Ro [Br 3 t1,As 4 kF]
abbrev C140_1 := Dr [Mv 6 t0,Nc 7 t6,Fa 8 1 t7,Ld 9 none t8,Fa 10 1 t3,Ld 11 none t10,Ix 12 6 t9 t11,Ld 13 (some 6) t12,Al 5 [zi,zi,zi,z4,zi,zi],Sxn 6 t5 t13] [[],[0],[1],[2],[],[4],[3,5],[6],[],[8,7,0,1,2,3,4,5,6,7,8]] [(0,[]),(1,[]),(2,[]),(3,[]),(4,[]),(5,[]),(6,[]),(7,[]),(8,[0,1,2,3,4,5,6,7]),(9,[])]
abbrev C140_2 := Ro [Fa 14 0 t5,Ld 15 none t14,Bn 16 .eql t15 (kI 1),Mv 17 t16,Fat 18 17 3 t5,Ldt 19 17 none t18,Cvt 20 17 .i64 t19,Fat 21 17 0 t3,Ldt 22 17 none t21,Bnt 23 17 .eql t20 t22,Pk 24 t17 t23 kF,As 4 t24]
abbrev C140_3 := Sq [4] C140_2 .ret
abbrev C140_4 := Sq [3,5] C140_1 C140_3
abbrev C140_5 := Sq [0,3] C140_0 C140_4
abbrev C140 := C140_5
abbrev C140r : List RV := [.t 4]
theorem C140ok : Okf Tryz.prog 140 Tryz.f140 C140 C140r := ⟨Tryz.func140, by kernel_rfl, by kernel_rfl, by kernel_rfl⟩

abbrev C141_0 := Ro [As 2 kF]
abbrev C141_1 := Ro [Mv 3 t0,Bn 4 .eql t3 (kI 28),Mv 5 t4,Mvf 6 5 t0,Bnf 7 5 .eql t6 (kI 36),Pk 8 t5 kT t7,Mv 9 t8,Mvf 10 9 t0,Bnf 11 9 .eql t10 (kI 33),Pk 12 t9 kT t11,Mv 13 t12,Mvf 14 13 t0,Bnf 15 13 .eql t14 (kI 37),Pk 16 t13 kT t15,Mv 17 t16,Mvf 18 17 t0,Bnf 19 17 .eql t18 (kI 50),Pk 20 t17 kT t19,Mv 21 t20,Mvf 22 21 t0,Bnf 23 21 .eql t22 (kI 51),Pk 24 t21 kT t23,Mv 25 t24,Mvf 26 25 t0,Bnf 27 25 .eql t26 (kI 53),Pk 28 t25 kT t27,As 2 t28]
abbrev C141_2 := Sq [2] C141_1 .ret
abbrev C141_3 := Sq [0] C141_0 C141_2
abbrev C141 := C141_3
abbrev C141r : List RV := [.t 2]
theorem C141ok : Okf Tryz.prog 141 Tryz.f141 C141 C141r := ⟨Tryz.func141, by kernel_rfl, by kernel_rfl, by kernel_rfl⟩

abbrev C142_0 := Ro [As 6 (kU 0)]
abbrev C142_1 := Dr [Mv 7 t0,Cv 8 .u64 t7,Mv 9 t1,Ca 10 93 [t9],Bn 11 .quo t8 t10,Mv 12 t2,Ca 13 93 [t12],Bn 14 .rem t11 t13,Cv 15 .u32 t14,As 6 t15] [[],[0],[],[2],[1,3],[],[5,3],[4,6],[7],[8,6,0,1,2,3,4,5,6,7,8]] [(0,[]),(1,[]),(2,[]),(5,[]),(3,[0,1,5]),(4,[]),(6,[0,1,4]),(7,[]),(8,[]),(9,[])]
abbrev C142_2 := Sq [6] C142_1 .ret
abbrev C142_3 := Sq [0,1,2] C142_0 C142_2
abbrev C142 := C142_3
abbrev C142r : List RV := [.t 6]
theorem C142ok : Okf Tryz.prog 142 Tryz.f142 C142 C142r := ⟨Tryz.func142, by kernel_rfl, by kernel_rfl, by kernel_rfl⟩

abbrev C143_0 := Ro [As 2 kF]
abbrev C143_1 := Ro [Mv 3 t0,Ca 4 157 [t3],Mv 5 t4,Mvf 6 5 t0,Caf 7 5 158 [t6],Pk 8 t5 kT t7,As 2 t8]
abbrev C143_2 := Sq [2] C143_1 .ret
abbrev C143_3 := Sq [0] C143_0 C143_2
abbrev C143 := C143_3
abbrev C143r : List RV := [.t 2]
theorem C143ok : Okf Tryz.prog 143 Tryz.f143 C143 C143r := ⟨Tryz.func143, by kernel_rfl, by kernel_rfl, by kernel_rfl⟩

abbrev C144_0 := Ro [As 2 (kI 0)]
abbrev C144_1 := Ro [Mv 3 t0]
abbrev C144_2 := Ro [Bn 5 .eql t3 (kI 11),As 4 t5]
abbrev C144_3 := Ro [Bn 6 .eql t3 (kI 14),As 4 t6]
abbrev C144_4 := Cd t4 .skip C144_3
abbrev C144_5 := Sq [3,4] C144_2 C144_4
abbrev C144_6 := Ro [As 2 (kI 1)]
abbrev C144_7 := Sq [2] C144_6 .ret
abbrev C144_8 := Ro [Bn 8 .eql t3 (kI 12),As 7 t8]
abbrev C144_9 := Ro [Bn 9 .eql t3 (kI 15),As 7 t9]
abbrev C144_10 := Cd t7 .skip C144_9
abbrev C144_11 := Sq [3,7] C144_8 C144_10
abbrev C144_12 := Ro [As 2 (kI 2)]
abbrev C144_13 := Sq [2] C144_12 .ret
abbrev C144_14 := Ro [Bn 11 .eql t3 (kI 13),As 10 t11]
abbrev C144_15 := Ro [As 2 (kI 4)]
abbrev C144_16 := Sq [2] C144_15 .ret
abbrev C144_17 := Cd t10 C144_16 .skip
abbrev C144_18 := Sq [10] C144_14 C144_17
abbrev C144_19 := Cd t7 C144_13 C144_18
abbrev C144_20 := Sq [3,7] C144_11 C144_19
abbrev C144_21 := Cd t4 C144_7 C144_20
abbrev C144_22 := Sq [3,4] C144_5 C144_21
abbrev C144_23 := Bk 0 C144_22
abbrev C144_24 := Sq [3] C144_1 C144_23
abbrev C144_25 := Ro [As 2 (kI 0)]
abbrev C144_26 := Sq [2] C144_25 .ret
abbrev C144_27 := Sq [] C144_24 C144_26
abbrev C144_28 := Sq [0] C144_0 C144_27
abbrev C144 := C144_28
abbrev C144r : List RV := [.t 2]
theorem C144ok : Okf Tryz.prog 144 Tryz.f144 C144 C144r := ⟨Tryz.func144, by kernel_rfl, by kernel_rfl, by kernel_rfl⟩

abbrev C145_0 := Ro [As 2 (kI 0)]
abbrev C145_1 := Ro [Mv 3 t0]
abbrev C145_2 := Ro [Bn 5 .eql t3 (kI 16),As 4 t5]
abbrev C145_3 := Ro [As 2 (kI 1)]
abbrev C145_4 := Sq [2] C145_3 .ret
abbrev C145_5 := Ro [Bn 7 .eql t3 (kI 17),As 6 t7]
abbrev C145_6 := Ro [As 2 (kI 2)]
abbrev C145_7 := Sq [2] C145_6 .ret
abbrev C145_8 := Ro [Bn 9 .eql t3 (kI 18),As 8 t9]
abbrev C145_9 := Ro [As 2 (kI 4)]
abbrev C145_10 := Sq [2] C145_9 .ret
abbrev C145_11 := Cd t8 C145_10 .skip
abbrev C145_12 := Sq [8] C145_8 C145_11
abbrev C145_13 := Cd t6 C145_7 C145_12
abbrev C145_14 := Sq [3,6] C145_5 C145_13
abbrev C145_15 := Cd t4 C145_4 C145_14
abbrev C145_16 := Sq [3,4] C145_2 C145_15
abbrev C145_17 := Bk 0 C145_16
abbrev C145_18 := Sq [3] C145_1 C145_17
abbrev C145_19 := Ro [As 2 (kI 0)]
abbrev C145_20 := Sq [2] C145_19 .ret
abbrev C145_21 := Sq [] C145_18 C145_20
abbrev C145_22 := Sq [0] C145_0 C145_21
abbrev C145 := C145_22
abbrev C145r : List RV := [.t 2]
theorem C145ok : Okf Tryz.prog 145 Tryz.f145 C145 C145r := ⟨Tryz.func145, by kernel_rfl, by kernel_rfl, by kernel_rfl⟩

abbrev C146_0 := Ro [As 2 kF]
abbrev C146_1 := Ro [Mv 3 t0,Bn 4 .geq t3 (kI 1),Mv 5 t4,Mvt 6 5 t0,Bnt 7 5 .leq t6 (kI 4),Pk 8 t5 t7 kF,As 2 t8]
abbrev C146_2 := Sq [2] C146_1 .ret
abbrev C146_3 := Sq [0] C146_0 C146_2
abbrev C146 := C146_3
abbrev C146r : List RV := [.t 2]
theorem C146ok : Okf Tryz.prog 146 Tryz.f146 C146 C146r := ⟨Tryz.func146, by kernel_rfl, by kernel_rfl, by kernel_rfl⟩

abbrev C147_0 := Ro [As 4 (kI 0)]
abbrev C147_1 := Ro [Mv 6 t0,Ln 7 t6,Mv 8 (kI 0)]
abbrev C147_2 := Ro [Bn 9 .lss t8 t7]
abbrev C147_3 := Cd t9 .skip (.exit 0)
abbrev C147_4 := Ro [Mv 10 t8,As 5 t10]
abbrev C147_5 := Ro [Mv 11 t1,Mv 12 t0,Mv 13 t5,Ix 14 2 t12 t13,Ld 15 (some 2) t14,⟨(some 16),none,.e (.callv t11 [t15])⟩]
abbrev C147_6 := Ro [Mv 17 t5,As 4 t17]
abbrev C147_7 := Sq [4] C147_6 .ret
abbrev C147_8 := Cd t16 C147_7 .skip
abbrev C147_9 := Sq [0,1,5,7,8,16] C147_5 C147_8
abbrev C147_10 := Sq [0,1,5,7,8] C147_4 C147_9
abbrev C147_11 := Bk 1 C147_10
abbrev C147_12 := Ro [Bn 18 .add t8 (kI 1),Mv 8 t18]
abbrev C147_13 := Sq [0,1,7,8] C147_11 C147_12
abbrev C147_14 := Sq [0,1,7,8] C147_3 C147_13
abbrev C147_15 := Sq [0,1,7,8,9] C147_2 C147_14
abbrev C147_16 : ACode := .loop C147_15
abbrev C147_17 := Bk 0 C147_16
abbrev C147_18 := Sq [0,1,7,8] C147_1 C147_17
abbrev C147_19 := Ro [As 4 (kI (-1))]
abbrev C147_20 := Sq [4] C147_19 .ret
abbrev C147_21 := Sq [] C147_18 C147_20
abbrev C147_22 := Sq [0,1] C147_0 C147_21
abbrev C147 := C147_22
abbrev C147r : List RV := [.t 4]
theorem C147ok : Okf Tryz.prog 147 Tryz.f147 C147 C147r := ⟨Tryz.func147, by kernel_rfl, by kernel_rfl, by kernel_rfl⟩

abbrev C148_0 := Ro [As 4 (kU 0),As 5 kF]
abbrev C148_1 := Ro [Mv 7 t0,Nc 8 t7,Fa 9 0 t8,Ld 10 none t9,Nc 11 t10,Fa 12 1 t11,Ld 13 none t12,Mv 14 t1,Ix 15 6 t13 t14,Ld 16 (some 6) t15,Al 6 [zi,zi,zi,z4,zi,zi],Sxn 6 t6 t16]
abbrev C148_2 := Dr [Fa 17 3 t6,Ld 18 none t17,Fa 19 0 t6,Ld 20 none t19,Bn 21 .eql t20 (kI 2),As 4 t18,As 5 t21] [[],[0],[],[2],[3],[1,0,1],[4,5,0,1,2,3,4,5]] [(0,[]),(1,[]),(2,[]),(3,[]),(4,[]),(5,[2,3,4]),(6,[])]
abbrev C148_3 := Sq [4,5] C148_2 .ret
abbrev C148_4 : ACode := .fz 6 C148_3
abbrev C148_5 := Sq [6] C148_1 C148_4
abbrev C148_6 := Sq [0,1] C148_0 C148_5
abbrev C148 := C148_6
abbrev C148r : List RV := [.t 4,.t 5]
theorem C148ok : Okf Tryz.prog 148 Tryz.f148 C148 C148r := ⟨Tryz.func148, by kernel_rfl, by kernel_rfl, by kernel_rfl⟩

abbrev C149_0 := Ro [As 2 (kI 0)]
abbrev C149_1 := Ro [Mv 4 t0,Ca 5 159 [t4],As 3 t5]
abbrev C149_2 := Ro [Mv 6 t3,Bn 7 .neq t6 (kI 0)]
abbrev C149_3 := Ro [Mv 8 t3,As 2 t8]
abbrev C149_4 := Sq [2] C149_3 .ret
abbrev C149_5 := Cd t7 C149_4 .skip
abbrev C149_6 := Sq [0,3,7] C149_2 C149_5
abbrev C149_7 := Sq [0,3] C149_1 C149_6
abbrev C149_8 := Ro [Mv 9 t0,As 2 t9]
abbrev C149_9 := Sq [2] C149_8 .ret
abbrev C149_10 := Sq [0] C149_7 C149_9
abbrev C149_11 := Sq [0] C149_0 C149_10
abbrev C149 := C149_11
abbrev C149r : List RV := [.t 2]
theorem C149ok : Okf Tryz.prog 149 Tryz.f149 C149 C149r := ⟨Tryz.func149, by kernel_rfl, by kernel_rfl, by kernel_rfl⟩

abbrev C150_0 := Ro [Br 3 t0,As 6 (kU 0),As 7 kF]
abbrev C150_1 := Ro [Fa 11 0 t3,Ld 12 none t11,Bn 13 .eql t12 (kI 2),As 10 t13]
abbrev C150_2 := Ro [Fa 14 3 t3,Ld 15 none t14,As 6 t15,As 7 kT]
abbrev C150_3 := Sq [6,7] C150_2 .ret
abbrev C150_4 := Ro [Fa 17 0 t3,Ld 18 none t17,Bn 19 .neq t18 (kI 3),Mv 20 t19,Faf 21 20 3 t3,Ldf 22 20 none t21,Cvf 23 20 .i64 t22,Caf 24 20 143 [t23],Unf 25 20 .not t24,Pk 26 t20 kT t25,As 16 t26]
abbrev C150_5 := Ro [As 6 (kU 0),As 7 kF]
abbrev C150_6 := Sq [6,7] C150_5 .ret
abbrev C150_7 := Cd t16 C150_6 .skip
abbrev C150_8 := Sq [1,2,3,16] C150_4 C150_7
abbrev C150_9 := Cd t10 C150_3 C150_8
abbrev C150_10 := Sq [1,2,3,10] C150_1 C150_9
abbrev C150_11 := Bk 0 C150_10
abbrev C150_12 := Ro [Fa 28 3 t3,Ld 29 none t28,Cv 30 .i64 t29,Mv 31 t1,Mv 32 t2,Ca 33 160 [t30,t31,t32],Mv 27 t33,Ex 34 0 t27,Ex 35 1 t27,As 8 t34,As 9 t35]
abbrev C150_13 := Ro [Mv 36 t9,Bn 37 .neq t36 (kI 0)]
abbrev C150_14 := Ro [Fa 39 3 t3,Ld 40 none t39,Cv 41 .i64 t40,Mv 42 t1,Mv 43 t2,Ca 44 161 [t41,t42,t43],Mv 38 t44,Ex 45 0 t38,Ex 46 1 t38,As 8 t45,As 9 t46]
abbrev C150_15 := Cd t37 C150_14 .skip
abbrev C150_16 := Sq [1,2,3,8,9,37] C150_13 C150_15
abbrev C150_17 := Ro [Mv 47 t8,Mv 48 t9,Bn 49 .eql t48 (kI 0),As 6 t47,As 7 t49]
abbrev C150_18 := Sq [6,7] C150_17 .ret
abbrev C150_19 := Sq [8,9] C150_16 C150_18
abbrev C150_20 := Sq [1,2,3,8,9] C150_12 C150_19
abbrev C150_21 := Sq [1,2,3] C150_11 C150_20
abbrev C150_22 := Sq [1,2,3] C150_0 C150_21
abbrev C150 := C150_22
abbrev C150r : List RV := [.t 6,.t 7]
theorem C150ok : Okf Tryz.prog 150 Tryz.f150 C150 C150r := ⟨Tryz.func150, by kernel_rfl, by kernel_rfl, by kernel_rfl⟩

abbrev C151_0 := Ro [As 8 (kI 0)]
abbrev C151_1 := Ro [Mv 10 t0,Mv 11 t1,Mv 12 t2,Mv 13 t3,Ca 14 162 [t10,t11,t12,t13],As 9 t14]
abbrev C151_2 := Ro [Mv 15 t2,As 8 t15]
abbrev C151_3 := Sq [8] C151_2 .ret
abbrev C151_4 := Ro [Mv 17 t1,Ca 18 163 [t17],Mv 19 t18,Mvt 20 19 t0,Mvt 21 19 t1,Mvt 22 19 t3,Mvt 23 19 t2,Cat 24 19 162 [t20,t21,t22,t23],Pk 25 t19 t24 kF,As 16 t25]
abbrev C151_5 := Ro [Mv 26 t3,As 8 t26]
abbrev C151_6 := Sq [8] C151_5 .ret
abbrev C151_7 := Cd t16 C151_6 .skip
abbrev C151_8 := Sq [3,16] C151_4 C151_7
abbrev C151_9 := Cd t9 C151_3 C151_8
abbrev C151_10 := Sq [0,1,2,3,9] C151_1 C151_9
abbrev C151_11 := Bk 0 C151_10
abbrev C151_12 := Ro [As 8 (kI (-1))]
abbrev C151_13 := Sq [8] C151_12 .ret
abbrev C151_14 := Sq [] C151_11 C151_13
abbrev C151_15 := Sq [0,1,2,3] C151_0 C151_14
abbrev C151 := C151_15
abbrev C151r : List RV := [.t 8]
theorem C151ok : Okf Tryz.prog 151 Tryz.f151 C151 C151r := ⟨Tryz.func151, by kernel_rfl, by kernel_rfl, by kernel_rfl⟩

abbrev C152_0 := Ro [As 8 kF]
abbrev C152_1 := Ro [Mv 9 t1]
abbrev C152_2 := Ro [Bn 11 .eql t9 (kI 29),As 10 t11]
abbrev C152_3 := Ro [Bn 12 .eql t9 (kI 33),As 10 t12]
abbrev C152_4 := Ro [Bn 13 .eql t9 (kI 31),As 10 t13]
abbrev C152_5 := Cd t10 .skip C152_4
abbrev C152_6 := Sq [0,2,3,9,10] C152_3 C152_5
abbrev C152_7 := Cd t10 .skip C152_6
abbrev C152_8 := Sq [0,2,3,9,10] C152_2 C152_7
abbrev C152_9 := Ro [Mv 14 t2,Mv 15 t3,Bn 16 .eql t14 t15,As 8 t16]
abbrev C152_10 := Sq [8] C152_9 .ret
abbrev C152_11 := Ro [Bn 18 .eql t9 (kI 32),As 17 t18]
abbrev C152_12 := Ro [Mv 19 t2,Mv 20 t3,Bn 21 .eql t19 t20,Mv 22 t21,Mvf 23 22 t0,Mvf 24 22 t3,Caf 25 22 164 [t23,t24,(kU 0)],Pk 26 t22 kT t25,As 8 t26]
abbrev C152_13 := Sq [8] C152_12 .ret
abbrev C152_14 := Ro [Bn 28 .eql t9 (kI 37),As 27 t28]
abbrev C152_15 := Ro [Bn 29 .eql t9 (kI 50),As 27 t29]
abbrev C152_16 := Cd t27 .skip C152_15
abbrev C152_17 := Sq [0,2,3,9,27] C152_14 C152_16
abbrev C152_18 := Ro [Mv 30 t0,Mv 31 t3,Ca 32 164 [t30,t31,(kU 0)],Mv 33 t32,Mvf 34 33 t0,Mvf 35 33 t2,Caf 36 33 164 [t34,t35,(kU 0)],Pk 37 t33 kT t36,As 8 t37]
abbrev C152_19 := Sq [8] C152_18 .ret
abbrev C152_20 := Cd t27 C152_19 .skip
abbrev C152_21 := Sq [0,2,3,27] C152_17 C152_20
abbrev C152_22 := Cd t17 C152_13 C152_21
abbrev C152_23 := Sq [0,2,3,9,17] C152_11 C152_22
abbrev C152_24 := Cd t10 C152_10 C152_23
abbrev C152_25 := Sq [0,2,3,9,10] C152_8 C152_24
abbrev C152_26 := Bk 0 C152_25
abbrev C152_27 := Sq [0,2,3,9] C152_1 C152_26
abbrev C152_28 := Ro [As 8 kF]
abbrev C152_29 := Sq [8] C152_28 .ret
abbrev C152_30 := Sq [] C152_27 C152_29
abbrev C152_31 := Sq [0,1,2,3] C152_0 C152_30
abbrev C152 := C152_31
abbrev C152r : List RV := [.t 8]
theorem C152ok : Okf Tryz.prog 152 Tryz.f152 C152 C152r := ⟨Tryz.func152, by kernel_rfl, by kernel_rfl, by kernel_rfl⟩

abbrev C153_0 := Ro [Br 2 t0,Br 3 t1,As 4 kF]
abbrev C153_1 := Ro [Fa 7 0 t2,Ld 8 none t7,Fa 9 0 t3,Ld 10 none t9,Bn 11 .neq t8 t10]
abbrev C153_2 := Ro [As 4 kF]
abbrev C153_3 := Sq [4] C153_2 .ret
abbrev C153_4 := Cd t11 C153_3 .skip
abbrev C153_5 := Sq [2,3,11] C153_1 C153_4
abbrev C153_6 := Ro [Fa 12 0 t2,Ld 13 none t12]
abbrev C153_7 := Ro [Bn 15 .eql t13 (kI 1),As 14 t15]
abbrev C153_8 := Ro [Bn 16 .eql t13 (kI 2),As 14 t16]
abbrev C153_9 := Cd t14 .skip C153_8
abbrev C153_10 := Sq [2,3,13,14] C153_7 C153_9
abbrev C153_11 := Ro [Fa 17 3 t2,Ld 18 none t17,Fa 19 3 t3,Ld 20 none t19,Bn 21 .eql t18 t20,As 4 t21]
abbrev C153_12 := Sq [4] C153_11 .ret
abbrev C153_13 := Ro [Bn 23 .eql t13 (kI 4),As 22 t23]
abbrev C153_14 := Ro [Fa 24 3 t2,Ld 25 none t24,Fa 26 3 t3,Ld 27 none t26,Bn 28 .eql t25 t27,Mv 29 t28,Fat 30 29 1 t2,Ldt 31 29 none t30,Fat 32 29 1 t3,Ldt 33 29 none t32,Bnt 34 29 .eql t31 t33,Pk 35 t29 t34 kF,As 4 t35]
abbrev C153_15 := Sq [4] C153_14 .ret
abbrev C153_16 := Ro [Bn 37 .eql t13 (kI 3),As 36 t37]
abbrev C153_17 := Ro [Fa 38 3 t2,Ld 39 none t38,Ca 40 165 [t39],As 5 t40]
abbrev C153_18 := Ro [Fa 41 1 t2,Ld 42 none t41,Fa 43 1 t3,Ld 44 none t43,Bn 45 .eql t42 t44,Mv 46 t45,Fat 47 46 2 t2,Ldt 48 46 none t47,Fat 49 46 2 t3,Ldt 50 46 none t49,Bnt 51 46 .eql t48 t50,Pk 52 t46 t51 kF,As 6 t52]
abbrev C153_19 := Ro [Mv 53 t5,Fa 54 3 t3,Ld 55 none t54,Ca 56 165 [t55],Bn 57 .eql t53 t56,Mv 58 t57,Mvt 59 58 t6,Mvt 60 58 t59,Mvf 61 60 t5,Caf 62 60 166 [t61],Mvf 63 60 t62,Fat 64 63 1 t2,Ldt 65 63 none t64,Fat 66 63 2 t3,Ldt 67 63 none t66,Bnt 68 63 .eql t65 t67,Pkf 69 60 t63 t68 kF,Mvf 70 60 t69,Fat 71 70 2 t2,Ldt 72 70 none t71,Fat 73 70 1 t3,Ldt 74 70 none t73,Bnt 75 70 .eql t72 t74,Pkf 76 60 t70 t75 kF,Pkt 77 58 t60 kT t76,Pk 78 t58 t77 kF,As 4 t78]
abbrev C153_20 := Sq [4] C153_19 .ret
abbrev C153_21 := Sq [2,3,5,6] C153_18 C153_20
abbrev C153_22 := Sq [2,3,5] C153_17 C153_21
abbrev C153_23 := Cd t36 C153_22 .skip
abbrev C153_24 := Sq [2,3,36] C153_16 C153_23
abbrev C153_25 := Cd t22 C153_15 C153_24
abbrev C153_26 := Sq [2,3,13,22] C153_13 C153_25
abbrev C153_27 := Cd t14 C153_12 C153_26
abbrev C153_28 := Sq [2,3,13,14] C153_10 C153_27
abbrev C153_29 := Bk 0 C153_28
abbrev C153_30 := Sq [2,3,13] C153_6 C153_29
abbrev C153_31 := Ro [As 4 kF]
abbrev C153_32 := Sq [4] C153_31 .ret
abbrev C153_33 := Sq [] C153_30 C153_32
abbrev C153_34 := Sq [2,3] C153_5 C153_33
abbrev C153_35 := Sq [2,3] C153_0 C153_34
abbrev C153 := C153_35
abbrev C153r : List RV := [.t 4]
theorem C153ok : Okf Tryz.prog 153 Tryz.f153 C153 C153r := ⟨Tryz.func153, by kernel_rfl, by kernel_rfl, by kernel_rfl⟩

abbrev C154_0 := Ro [As 6 kF,As 7 (kI 0)]
abbrev C154_1 := Ro [Mv 8 t0]
abbrev C154_2 := Ro [Bn 10 .eql t8 (kI 5),As 9 t10]
abbrev C154_3 := Ro [Mv 11 t1,Mv 12 t2,Bn 13 .eql t11 t12,As 6 t13,As 7 (kI 0)]
abbrev C154_4 := Sq [6,7] C154_3 .ret
abbrev C154_5 := Ro [Bn 15 .eql t8 (kI 6),As 14 t15]
abbrev C154_6 := Ro [Mv 16 t1,Mv 17 t2,Bn 18 .neq t16 t17,As 6 t18,As 7 (kI 0)]
abbrev C154_7 := Sq [6,7] C154_6 .ret
abbrev C154_8 := Ro [Bn 20 .eql t8 (kI 7),As 19 t20]
abbrev C154_9 := Ro [Mv 21 t1,Cv 22 .i32 t21,Mv 23 t2,Cv 24 .i32 t23,Bn 25 .lss t22 t24,As 6 t25,As 7 (kI 0)]
abbrev C154_10 := Sq [6,7] C154_9 .ret
abbrev C154_11 := Ro [Bn 27 .eql t8 (kI 8),As 26 t27]
abbrev C154_12 := Ro [Mv 28 t1,Cv 29 .i32 t28,Mv 30 t2,Cv 31 .i32 t30,Bn 32 .geq t29 t31,As 6 t32,As 7 (kI 0)]
abbrev C154_13 := Sq [6,7] C154_12 .ret
abbrev C154_14 := Ro [Bn 34 .eql t8 (kI 9),As 33 t34]
abbrev C154_15 := Ro [Mv 35 t1,Mv 36 t2,Bn 37 .lss t35 t36,As 6 t37,As 7 (kI 0)]
abbrev C154_16 := Sq [6,7] C154_15 .ret
abbrev C154_17 := Ro [Bn 39 .eql t8 (kI 10),As 38 t39]
abbrev C154_18 := Ro [Mv 40 t1,Mv 41 t2,Bn 42 .geq t40 t41,As 6 t42,As 7 (kI 0)]
abbrev C154_19 := Sq [6,7] C154_18 .ret
abbrev C154_20 := Cd t38 C154_19 .skip
abbrev C154_21 := Sq [1,2,38] C154_17 C154_20
abbrev C154_22 := Cd t33 C154_16 C154_21
abbrev C154_23 := Sq [1,2,8,33] C154_14 C154_22
abbrev C154_24 := Cd t26 C154_13 C154_23
abbrev C154_25 := Sq [1,2,8,26] C154_11 C154_24
abbrev C154_26 := Cd t19 C154_10 C154_25
abbrev C154_27 := Sq [1,2,8,19] C154_8 C154_26
abbrev C154_28 := Cd t14 C154_7 C154_27
abbrev C154_29 := Sq [1,2,8,14] C154_5 C154_28
abbrev C154_30 := Cd t9 C154_4 C154_29
abbrev C154_31 := Sq [1,2,8,9] C154_2 C154_30
abbrev C154_32 := Bk 0 C154_31
abbrev C154_33 := Sq [1,2,8] C154_1 C154_32
abbrev C154_34 := Ro [As 6 kF,As 7 (kI 9)]
abbrev C154_35 := Sq [6,7] C154_34 .ret
abbrev C154_36 := Sq [] C154_33 C154_35
abbrev C154_37 := Sq [0,1,2] C154_0 C154_36
abbrev C154 := C154_37
abbrev C154r : List RV := [.t 6,.t 7]
theorem C154ok : Okf Tryz.prog 154 Tryz.f154 C154 C154r := ⟨Tryz.func154, by kernel_rfl, by kernel_rfl, by kernel_rfl⟩

abbrev C155_0 := Ro [As 2 (kI 0)]
abbrev C155_1 := Ro [Mv 3 t0]
abbrev C155_2 := Ro [As 2 (kI 1)]
abbrev C155_3 := Sq [2] C155_2 .ret
abbrev C155_4 := Cd t3 C155_3 .skip
abbrev C155_5 := Sq [3] C155_1 C155_4
abbrev C155_6 := Ro [As 2 (kI 2)]
abbrev C155_7 := Sq [2] C155_6 .ret
abbrev C155_8 := Sq [] C155_5 C155_7
abbrev C155_9 := Sq [0] C155_0 C155_8
abbrev C155 := C155_9
abbrev C155r : List RV := [.t 2]
theorem C155ok : Okf Tryz.prog 155 Tryz.f155 C155 C155r := ⟨Tryz.func155, by kernel_rfl, by kernel_rfl, by kernel_rfl⟩

abbrev C156_0 := Ro [As 2 (kI 0)]
abbrev C156_1 := Ro [Mv 3 t0]
abbrev C156_2 := Ro [Bn 5 .eql t3 (kI 5),As 4 t5]
abbrev C156_3 := Ro [Bn 6 .eql t3 (kI 7),As 4 t6]
abbrev C156_4 := Ro [Bn 7 .eql t3 (kI 9),As 4 t7]
abbrev C156_5 := Cd t4 .skip C156_4
abbrev C156_6 := Sq [0,3,4] C156_3 C156_5
abbrev C156_7 := Cd t4 .skip C156_6
abbrev C156_8 := Sq [0,3,4] C156_2 C156_7
abbrev C156_9 := Ro [Mv 8 t0,Bn 9 .add t8 (kI 1),As 2 t9]
abbrev C156_10 := Sq [2] C156_9 .ret
abbrev C156_11 := Ro [Bn 11 .eql t3 (kI 6),As 10 t11]
abbrev C156_12 := Ro [Bn 12 .eql t3 (kI 8),As 10 t12]
abbrev C156_13 := Ro [Bn 13 .eql t3 (kI 10),As 10 t13]
abbrev C156_14 := Cd t10 .skip C156_13
abbrev C156_15 := Sq [0,3,10] C156_12 C156_14
abbrev C156_16 := Cd t10 .skip C156_15
abbrev C156_17 := Sq [0,3,10] C156_11 C156_16
abbrev C156_18 := Ro [Mv 14 t0,Bn 15 .sub t14 (kI 1),As 2 t15]
abbrev C156_19 := Sq [2] C156_18 .ret
abbrev C156_20 := Cd t10 C156_19 .skip
abbrev C156_21 := Sq [0,10] C156_17 C156_20
abbrev C156_22 := Cd t4 C156_10 C156_21
abbrev C156_23 := Sq [0,3,4] C156_8 C156_22
abbrev C156_24 := Bk 0 C156_23
abbrev C156_25 := Sq [0,3] C156_1 C156_24
abbrev C156_26 := Ro [As 2 (kI 0)]
abbrev C156_27 := Sq [2] C156_26 .ret
abbrev C156_28 := Sq [] C156_25 C156_27
abbrev C156_29 := Sq [0] C156_0 C156_28
abbrev C156 := C156_29
abbrev C156r : List RV := [.t 2]
theorem C156ok : Okf Tryz.prog 156 Tryz.f156 C156 C156r := ⟨Tryz.func156, by kernel_rfl, by kernel_rfl, by kernel_rfl⟩

abbrev C157_0 := Ro [As 2 kF]
abbrev C157_1 := Ro [Mv 3 t0,Bn 4 .geq t3 (kI 19),Mv 5 t4,Mvt 6 5 t0,Bnt 7 5 .leq t6 (kI 37),Pk 8 t5 t7 kF,As 2 t8]
abbrev C157_2 := Sq [2] C157_1 .ret
abbrev C157_3 := Sq [0] C157_0 C157_2
abbrev C157 := C157_3
abbrev C157r : List RV := [.t 2]
theorem C157ok : Okf Tryz.prog 157 Tryz.f157 C157 C157r := ⟨Tryz.func157, by kernel_rfl, by kernel_rfl, by kernel_rfl⟩

abbrev C158_0 := Ro [As 2 kF]
abbrev C158_1 := Ro [Mv 3 t0,Bn 4 .geq t3 (kI 50),Mv 5 t4,Mvt 6 5 t0,Bnt 7 5 .leq t6 (kI 57),Pk 8 t5 t7 kF,As 2 t8]
abbrev C158_2 := Sq [2] C158_1 .ret
abbrev C158_3 := Sq [0] C158_0 C158_2
abbrev C158 := C158_3
abbrev C158r : List RV := [.t 2]
theorem C158ok : Okf Tryz.prog 158 Tryz.f158 C158 C158r := ⟨Tryz.func158, by kernel_rfl, by kernel_rfl, by kernel_rfl⟩

abbrev C159_0 := Ro [As 2 (kI 0)]
abbrev C159_1 := Ro [Mv 3 t0]
abbrev C159_2 := Ro [Bn 5 .eql t3 (kI 19),As 4 t5]
abbrev C159_3 := Ro [As 2 (kI 28)]
abbrev C159_4 := Sq [2] C159_3 .ret
abbrev C159_5 := Ro [Bn 7 .eql t3 (kI 20),As 6 t7]
abbrev C159_6 := Ro [As 2 (kI 31)]
abbrev C159_7 := Sq [2] C159_6 .ret
abbrev C159_8 := Ro [Bn 9 .eql t3 (kI 21),As 8 t9]
abbrev C159_9 := Ro [As 2 (kI 32)]
abbrev C159_10 := Sq [2] C159_9 .ret
abbrev C159_11 := Ro [Bn 11 .eql t3 (kI 22),As 10 t11]
abbrev C159_12 := Ro [As 2 (kI 33)]
abbrev C159_13 := Sq [2] C159_12 .ret
abbrev C159_14 := Ro [Bn 13 .eql t3 (kI 23),As 12 t13]
abbrev C159_15 := Ro [As 2 (kI 36)]
abbrev C159_16 := Sq [2] C159_15 .ret
abbrev C159_17 := Ro [Bn 15 .eql t3 (kI 24),As 14 t15]
abbrev C159_18 := Ro [As 2 (kI 37)]
abbrev C159_19 := Sq [2] C159_18 .ret
abbrev C159_20 := Ro [Bn 17 .eql t3 (kI 25),As 16 t17]
abbrev C159_21 := Ro [As 2 (kI 30)]
abbrev C159_22 := Sq [2] C159_21 .ret
abbrev C159_23 := Ro [Bn 19 .eql t3 (kI 26),As 18 t19]
abbrev C159_24 := Ro [As 2 (kI 34)]
abbrev C159_25 := Sq [2] C159_24 .ret
abbrev C159_26 := Ro [Bn 21 .eql t3 (kI 27),As 20 t21]
abbrev C159_27 := Ro [As 2 (kI 35)]
abbrev C159_28 := Sq [2] C159_27 .ret
abbrev C159_29 := Cd t20 C159_28 .skip
abbrev C159_30 := Sq [0,20] C159_26 C159_29
abbrev C159_31 := Cd t18 C159_25 C159_30
abbrev C159_32 := Sq [0,3,18] C159_23 C159_31
abbrev C159_33 := Cd t16 C159_22 C159_32
abbrev C159_34 := Sq [0,3,16] C159_20 C159_33
abbrev C159_35 := Cd t14 C159_19 C159_34
abbrev C159_36 := Sq [0,3,14] C159_17 C159_35
abbrev C159_37 := Cd t12 C159_16 C159_36
abbrev C159_38 := Sq [0,3,12] C159_14 C159_37
abbrev C159_39 := Cd t10 C159_13 C159_38
abbrev C159_40 := Sq [0,3,10] C159_11 C159_39
abbrev C159_41 := Cd t8 C159_10 C159_40
abbrev C159_42 := Sq [0,3,8] C159_8 C159_41
abbrev C159_43 := Cd t6 C159_7 C159_42
abbrev C159_44 := Sq [0,3,6] C159_5 C159_43
abbrev C159_45 := Cd t4 C159_4 C159_44
abbrev C159_46 := Sq [0,3,4] C159_2 C159_45
abbrev C159_47 := Bk 0 C159_46
abbrev C159_48 := Sq [0,3] C159_1 C159_47
abbrev C159_49 := Ro [Mv 22 t0,Ca 23 157 [t22]]
abbrev C159_50 := Ro [Mv 24 t0,As 2 t24]
abbrev C159_51 := Sq [2] C159_50 .ret
abbrev C159_52 := Cd t23 C159_51 .skip
abbrev C159_53 := Sq [0,23] C159_49 C159_52
abbrev C159_54 := Ro [As 2 (kI 0)]
abbrev C159_55 := Sq [2] C159_54 .ret
abbrev C159_56 := Sq [] C159_53 C159_55
abbrev C159_57 := Sq [0] C159_48 C159_56
abbrev C159_58 := Sq [0] C159_0 C159_57
abbrev C159 := C159_58
abbrev C159r : List RV := [.t 2]
theorem C159ok : Okf Tryz.prog 159 Tryz.f159 C159 C159r := ⟨Tryz.func159, by kernel_rfl, by kernel_rfl, by kernel_rfl⟩

abbrev C160_0 := Ro [As 6 (kU 0),As 7 (kI 0)]
abbrev C160_1 := Ro [Mv 9 t2,Bn 10 .and t9 (kU 31),Cv 11 .u64 t10,As 8 t11]
abbrev C160_2 := Ro [Mv 12 t0,Ca 13 159 [t12]]
abbrev C160_3 := Ro [Bn 15 .eql t13 (kI 29),As 14 t15]
abbrev C160_4 := Cd t14 (.exit 1) .skip
abbrev C160_5 := Sq [1,2,8,13,14] C160_3 C160_4
abbrev C160_6 := Ro [Bn 17 .eql t13 (kI 28),As 16 t17]
abbrev C160_7 := Cd t16 (.exit 2) .skip
abbrev C160_8 := Sq [1,2,8,13,16] C160_6 C160_7
abbrev C160_9 := Ro [Bn 19 .eql t13 (kI 30),As 18 t19]
abbrev C160_10 := Cd t18 (.exit 3) .skip
abbrev C160_11 := Sq [1,2,8,13,18] C160_9 C160_10
abbrev C160_12 := Ro [Bn 21 .eql t13 (kI 31),As 20 t21]
abbrev C160_13 := Cd t20 (.exit 4) .skip
abbrev C160_14 := Sq [1,2,8,13,20] C160_12 C160_13
abbrev C160_15 := Ro [Bn 23 .eql t13 (kI 32),As 22 t23]
abbrev C160_16 := Cd t22 (.exit 5) .skip
abbrev C160_17 := Sq [1,2,8,13,22] C160_15 C160_16
abbrev C160_18 := Ro [Bn 25 .eql t13 (kI 33),As 24 t25]
abbrev C160_19 := Cd t24 (.exit 6) .skip
abbrev C160_20 := Sq [1,2,8,13,24] C160_18 C160_19
abbrev C160_21 := Ro [Bn 27 .eql t13 (kI 34),As 26 t27]
abbrev C160_22 := Cd t26 (.exit 7) .skip
abbrev C160_23 := Sq [1,2,8,13,26] C160_21 C160_22
abbrev C160_24 := Ro [Bn 29 .eql t13 (kI 35),As 28 t29]
abbrev C160_25 := Cd t28 (.exit 8) .skip
abbrev C160_26 := Sq [1,2,8,13,28] C160_24 C160_25
abbrev C160_27 := Ro [Bn 31 .eql t13 (kI 36),As 30 t31]
abbrev C160_28 := Cd t30 (.exit 9) .skip
abbrev C160_29 := Sq [1,2,13,30] C160_27 C160_28
abbrev C160_30 := Ro [Bn 33 .eql t13 (kI 37),As 32 t33]
abbrev C160_31 := Cd t32 (.exit 10) .skip
abbrev C160_32 := Sq [1,2,32] C160_30 C160_31
abbrev C160_33 := Sq [1,2,13] C160_29 C160_32
abbrev C160_34 := Sq [1,2,13] C160_26 C160_33
abbrev C160_35 := Sq [1,2,8,13] C160_23 C160_34
abbrev C160_36 := Sq [1,2,8,13] C160_20 C160_35
abbrev C160_37 := Sq [1,2,8,13] C160_17 C160_36
abbrev C160_38 := Sq [1,2,8,13] C160_14 C160_37
abbrev C160_39 := Sq [1,2,8,13] C160_11 C160_38
abbrev C160_40 := Sq [1,2,8,13] C160_8 C160_39
abbrev C160_41 := Sq [1,2,8,13] C160_5 C160_40
abbrev C160_42 := Sq [] C160_41 (.exit 0)
abbrev C160_43 := Bk 1 C160_42
abbrev C160_44 := Ro [Mv 34 t2,Un 35 .neg t34,As 2 t35]
abbrev C160_45 := Sq [1,2] C160_43 C160_44
abbrev C160_46 := Bk 2 C160_45
abbrev C160_47 := Ro [Mv 36 t1,Mv 37 t2,Bn 38 .add t36 t37,As 6 t38,As 7 (kI 0)]
abbrev C160_48 := Sq [6,7] C160_47 .ret
abbrev C160_49 := Sq [] C160_48 (.exit 0)
abbrev C160_50 := Sq [1,2] C160_46 C160_49
abbrev C160_51 := Bk 3 C160_50
abbrev C160_52 := Ro [Mv 39 t1,Mv 40 t8,Bn 41 .shl t39 t40,As 6 t41,As 7 (kI 0)]
abbrev C160_53 := Sq [6,7] C160_52 .ret
abbrev C160_54 := Sq [] C160_53 (.exit 0)
abbrev C160_55 := Sq [1,8] C160_51 C160_54
abbrev C160_56 := Bk 4 C160_55
abbrev C160_57 := Ro [Mv 42 t1,Bn 43 .xor t42 (kU 2147483648),As 1 t43]
abbrev C160_58 := Ro [Mv 44 t2,Bn 45 .xor t44 (kU 2147483648),As 2 t45]
abbrev C160_59 := Sq [1,2] C160_57 C160_58
abbrev C160_60 := Sq [1,2] C160_56 C160_59
abbrev C160_61 := Bk 5 C160_60
abbrev C160_62 := Ro [Mv 46 t1,Mv 47 t2,Bn 48 .lss t46 t47,Ca 49 167 [t48],As 6 t49,As 7 (kI 0)]
abbrev C160_63 := Sq [6,7] C160_62 .ret
abbrev C160_64 := Sq [] C160_63 (.exit 0)
abbrev C160_65 := Sq [1,2] C160_61 C160_64
abbrev C160_66 := Bk 6 C160_65
abbrev C160_67 := Ro [Mv 50 t1,Mv 51 t2,Bn 52 .xor t50 t51,As 6 t52,As 7 (kI 0)]
abbrev C160_68 := Sq [6,7] C160_67 .ret
abbrev C160_69 := Sq [] C160_68 (.exit 0)
abbrev C160_70 := Sq [1,2] C160_66 C160_69
abbrev C160_71 := Bk 7 C160_70
abbrev C160_72 := Ro [Mv 53 t1,Mv 54 t8,Bn 55 .shr t53 t54,As 6 t55,As 7 (kI 0)]
abbrev C160_73 := Sq [6,7] C160_72 .ret
abbrev C160_74 := Sq [] C160_73 (.exit 0)
abbrev C160_75 := Sq [1,8] C160_71 C160_74
abbrev C160_76 := Bk 8 C160_75
abbrev C160_77 := Ro [Mv 56 t1,Cv 57 .i32 t56,Mv 58 t8,Bn 59 .shr t57 t58,Cv 60 .u32 t59,As 6 t60,As 7 (kI 0)]
abbrev C160_78 := Sq [6,7] C160_77 .ret
abbrev C160_79 := Sq [] C160_78 (.exit 0)
abbrev C160_80 := Sq [1,8] C160_76 C160_79
abbrev C160_81 := Bk 9 C160_80
abbrev C160_82 := Ro [Mv 61 t1,Mv 62 t2,Bn 63 .or t61 t62,As 6 t63,As 7 (kI 0)]
abbrev C160_83 := Sq [6,7] C160_82 .ret
abbrev C160_84 := Sq [] C160_83 (.exit 0)
abbrev C160_85 := Sq [1,2] C160_81 C160_84
abbrev C160_86 := Bk 10 C160_85
abbrev C160_87 := Ro [Mv 64 t1,Mv 65 t2,Bn 66 .and t64 t65,As 6 t66,As 7 (kI 0)]
abbrev C160_88 := Sq [6,7] C160_87 .ret
abbrev C160_89 := Sq [] C160_88 (.exit 0)
abbrev C160_90 := Sq [1,2] C160_86 C160_89
abbrev C160_91 := Bk 0 C160_90
abbrev C160_92 := Sq [1,2,8,13] C160_2 C160_91
abbrev C160_93 := Ro [As 6 (kU 0),As 7 (kI 9)]
abbrev C160_94 := Sq [6,7] C160_93 .ret
abbrev C160_95 := Sq [] C160_92 C160_94
abbrev C160_96 := Sq [0,1,2,8] C160_1 C160_95
abbrev C160_97 := Sq [0,1,2] C160_0 C160_96
abbrev C160 := C160_97
abbrev C160r : List RV := [.t 6,.t 7]
theorem C160ok : Okf Tryz.prog 160 Tryz.f160 C160 C160r := ⟨Tryz.func160, by kernel_rfl, by kernel_rfl, by kernel_rfl⟩

abbrev C161_0 := Ro [As 6 (kU 0),As 7 (kI 0)]
abbrev C161_1 := Ro [Mv 12 t0]
abbrev C161_2 := Ro [Bn 14 .eql t12 (kI 50),As 13 t14]
abbrev C161_3 := Ro [Mv 15 t1,Mv 16 t2,Bn 17 .mul t15 t16,As 6 t17,As 7 (kI 0)]
abbrev C161_4 := Sq [6,7] C161_3 .ret
abbrev C161_5 := Ro [Bn 19 .eql t12 (kI 51),As 18 t19]
abbrev C161_6 := Ro [Bn 20 .eql t12 (kI 52),As 18 t20]
abbrev C161_7 := Ro [Bn 21 .eql t12 (kI 53),As 18 t21]
abbrev C161_8 := Cd t18 .skip C161_7
abbrev C161_9 := Sq [0,1,2,12,18] C161_6 C161_8
abbrev C161_10 := Cd t18 .skip C161_9
abbrev C161_11 := Sq [0,1,2,12,18] C161_5 C161_10
abbrev C161_12 := Ro [Mv 22 t1,Mv 23 t2,Mv 24 t0,Bn 25 .neq t24 (kI 53),Mv 26 t0,Bn 27 .eql t26 (kI 51),Ca 28 168 [t22,t23,t25,t27],As 6 t28,As 7 (kI 0)]
abbrev C161_13 := Sq [6,7] C161_12 .ret
abbrev C161_14 := Ro [Bn 30 .eql t12 (kI 54),As 29 t30]
abbrev C161_15 := Ro [Bn 31 .eql t12 (kI 55),As 29 t31]
abbrev C161_16 := Cd t29 .skip C161_15
abbrev C161_17 := Sq [0,1,2,12,29] C161_14 C161_16
abbrev C161_18 := Ro [Mv 33 t1,Mv 34 t2,Mv 35 t0,Bn 36 .eql t35 (kI 54),Ca 37 169 [t33,t34,t36],Mv 32 t37,Ex 38 0 t32,Ex 39 1 t32,As 8 t38,As 9 t39]
abbrev C161_19 := Ro [Mv 40 t8,As 6 t40,As 7 (kI 0)]
abbrev C161_20 := Sq [6,7] C161_19 .ret
abbrev C161_21 := Sq [8] C161_18 C161_20
abbrev C161_22 := Ro [Bn 42 .eql t12 (kI 56),As 41 t42]
abbrev C161_23 := Ro [Bn 43 .eql t12 (kI 57),As 41 t43]
abbrev C161_24 := Cd t41 .skip C161_23
abbrev C161_25 := Sq [0,1,2,12,41] C161_22 C161_24
abbrev C161_26 := Ro [Mv 45 t1,Mv 46 t2,Mv 47 t0,Bn 48 .eql t47 (kI 56),Ca 49 169 [t45,t46,t48],Mv 44 t49,Ex 50 0 t44,Ex 51 1 t44,As 10 t50,As 11 t51]
abbrev C161_27 := Ro [Mv 52 t11,As 6 t52,As 7 (kI 0)]
abbrev C161_28 := Sq [6,7] C161_27 .ret
abbrev C161_29 := Sq [11] C161_26 C161_28
abbrev C161_30 := Cd t41 C161_29 .skip
abbrev C161_31 := Sq [0,1,2,41] C161_25 C161_30
abbrev C161_32 := Cd t29 C161_21 C161_31
abbrev C161_33 := Sq [0,1,2,12,29] C161_17 C161_32
abbrev C161_34 := Cd t18 C161_13 C161_33
abbrev C161_35 := Sq [0,1,2,12,18] C161_11 C161_34
abbrev C161_36 := Cd t13 C161_4 C161_35
abbrev C161_37 := Sq [0,1,2,12,13] C161_2 C161_36
abbrev C161_38 := Bk 0 C161_37
abbrev C161_39 := Sq [0,1,2,12] C161_1 C161_38
abbrev C161_40 := Ro [As 6 (kU 0),As 7 (kI 9)]
abbrev C161_41 := Sq [6,7] C161_40 .ret
abbrev C161_42 := Sq [] C161_39 C161_41
abbrev C161_43 := Sq [0,1,2] C161_0 C161_42
abbrev C161 := C161_43
abbrev C161r : List RV := [.t 6,.t 7]
theorem C161ok : Okf Tryz.prog 161 Tryz.f161 C161 C161r := ⟨Tryz.func161, by kernel_rfl, by kernel_rfl, by kernel_rfl⟩

abbrev C162_0 := Ro [As 8 kF]
abbrev C162_1 := Ro [Mv 11 t1]
abbrev C162_2 := Ro [Bn 13 .eql t11 (kI 36),As 12 t13]
abbrev C162_3 := Cd t12 (.exit 1) .skip
abbrev C162_4 := Sq [0,2,3,11,12] C162_2 C162_3
abbrev C162_5 := Ro [Bn 15 .eql t11 (kI 28),As 14 t15]
abbrev C162_6 := Ro [Bn 16 .eql t11 (kI 33),As 14 t16]
abbrev C162_7 := Ro [Bn 17 .eql t11 (kI 29),As 14 t17]
abbrev C162_8 := Cd t14 .skip C162_7
abbrev C162_9 := Sq [0,2,3,11,14] C162_6 C162_8
abbrev C162_10 := Cd t14 .skip C162_9
abbrev C162_11 := Sq [0,2,3,11,14] C162_5 C162_10
abbrev C162_12 := Cd t14 (.exit 2) .skip
abbrev C162_13 := Sq [0,2,3,11,14] C162_11 C162_12
abbrev C162_14 := Ro [Bn 19 .eql t11 (kI 30),As 18 t19]
abbrev C162_15 := Ro [Bn 20 .eql t11 (kI 34),As 18 t20]
abbrev C162_16 := Ro [Bn 21 .eql t11 (kI 35),As 18 t21]
abbrev C162_17 := Cd t18 .skip C162_16
abbrev C162_18 := Sq [0,2,3,11,18] C162_15 C162_17
abbrev C162_19 := Cd t18 .skip C162_18
abbrev C162_20 := Sq [0,2,3,11,18] C162_14 C162_19
abbrev C162_21 := Cd t18 (.exit 3) .skip
abbrev C162_22 := Sq [0,2,3,11,18] C162_20 C162_21
abbrev C162_23 := Ro [Bn 23 .eql t11 (kI 37),As 22 t23]
abbrev C162_24 := Cd t22 (.exit 4) .skip
abbrev C162_25 := Sq [0,2,3,11,22] C162_23 C162_24
abbrev C162_26 := Ro [Bn 25 .eql t11 (kI 50),As 24 t25]
abbrev C162_27 := Ro [Bn 26 .eql t11 (kI 55),As 24 t26]
abbrev C162_28 := Cd t24 .skip C162_27
abbrev C162_29 := Sq [0,3,11,24] C162_26 C162_28
abbrev C162_30 := Cd t24 (.exit 5) .skip
abbrev C162_31 := Sq [0,3,24] C162_29 C162_30
abbrev C162_32 := Sq [0,3,11] C162_25 C162_31
abbrev C162_33 := Sq [0,2,3,11] C162_22 C162_32
abbrev C162_34 := Sq [0,2,3,11] C162_13 C162_33
abbrev C162_35 := Sq [0,2,3,11] C162_4 C162_34
abbrev C162_36 := Sq [] C162_35 (.exit 0)
abbrev C162_37 := Bk 1 C162_36
abbrev C162_38 := Ro [Mv 27 t2,Mv 28 t3,Bn 29 .eql t27 t28]
abbrev C162_39 := Ro [As 8 kT]
abbrev C162_40 := Sq [8] C162_39 .ret
abbrev C162_41 := Cd t29 C162_40 .skip
abbrev C162_42 := Sq [0,3,29] C162_38 C162_41
abbrev C162_43 := Sq [0,2,3] C162_37 C162_42
abbrev C162_44 := Bk 2 C162_43
abbrev C162_45 := Ro [Mv 30 t0,Mv 31 t3,Ca 32 164 [t30,t31,(kU 0)],As 8 t32]
abbrev C162_46 := Sq [8] C162_45 .ret
abbrev C162_47 := Sq [] C162_46 (.exit 0)
abbrev C162_48 := Sq [0,3] C162_44 C162_47
abbrev C162_49 := Bk 3 C162_48
abbrev C162_50 := Ro [Mv 34 t0,Mv 35 t3,Ca 36 148 [t34,t35],Mv 33 t36,Ex 37 0 t33,Ex 38 1 t33,As 9 t37,As 10 t38]
abbrev C162_51 := Ro [Mv 39 t10,Mv 40 t39,Mvt 41 40 t9,Bnt 42 40 .and t41 (kU 31),Bnt 43 40 .eql t42 (kU 0),Pk 44 t40 t43 kF,As 8 t44]
abbrev C162_52 := Sq [8] C162_51 .ret
abbrev C162_53 := Sq [9,10] C162_50 C162_52
abbrev C162_54 := Sq [] C162_53 (.exit 0)
abbrev C162_55 := Sq [0,3] C162_49 C162_54
abbrev C162_56 := Bk 4 C162_55
abbrev C162_57 := Ro [Mv 45 t2,Mv 46 t3,Bn 47 .eql t45 t46,Mv 48 t47,Mvf 49 48 t0,Mvf 50 48 t3,Caf 51 48 164 [t49,t50,(kU 4294967295)],Pk 52 t48 kT t51,As 8 t52]
abbrev C162_58 := Sq [8] C162_57 .ret
abbrev C162_59 := Sq [] C162_58 (.exit 0)
abbrev C162_60 := Sq [0,2,3] C162_56 C162_59
abbrev C162_61 := Bk 5 C162_60
abbrev C162_62 := Ro [Mv 53 t0,Mv 54 t3,Ca 55 164 [t53,t54,(kU 1)],As 8 t55]
abbrev C162_63 := Sq [8] C162_62 .ret
abbrev C162_64 := Sq [] C162_63 (.exit 0)
abbrev C162_65 := Sq [0,3] C162_61 C162_64
abbrev C162_66 := Bk 0 C162_65
abbrev C162_67 := Sq [0,2,3,11] C162_1 C162_66
abbrev C162_68 := Ro [As 8 kF]
abbrev C162_69 := Sq [8] C162_68 .ret
abbrev C162_70 := Sq [] C162_67 C162_69
abbrev C162_71 := Sq [0,1,2,3] C162_0 C162_70
abbrev C162 := C162_71
abbrev C162r : List RV := [.t 8]
theorem C162ok : Okf Tryz.prog 162 Tryz.f162 C162 C162r := ⟨Tryz.func162, by kernel_rfl, by kernel_rfl, by kernel_rfl⟩

abbrev C163_0 := Ro [As 2 kF]
abbrev C163_1 := Ro [Mv 3 t0]
abbrev C163_2 := Ro [Bn 5 .eql t3 (kI 28),As 4 t5]
abbrev C163_3 := Ro [Bn 6 .eql t3 (kI 36),As 4 t6]
abbrev C163_4 := Ro [Bn 7 .eql t3 (kI 33),As 4 t7]
abbrev C163_5 := Ro [Bn 8 .eql t3 (kI 37),As 4 t8]
abbrev C163_6 := Ro [Bn 9 .eql t3 (kI 50),As 4 t9]
abbrev C163_7 := Cd t4 .skip C163_6
abbrev C163_8 := Sq [3,4] C163_5 C163_7
abbrev C163_9 := Cd t4 .skip C163_8
abbrev C163_10 := Sq [3,4] C163_4 C163_9
abbrev C163_11 := Cd t4 .skip C163_10
abbrev C163_12 := Sq [3,4] C163_3 C163_11
abbrev C163_13 := Cd t4 .skip C163_12
abbrev C163_14 := Sq [3,4] C163_2 C163_13
abbrev C163_15 := Ro [As 2 kT]
abbrev C163_16 := Sq [2] C163_15 .ret
abbrev C163_17 := Cd t4 C163_16 .skip
abbrev C163_18 := Sq [4] C163_14 C163_17
abbrev C163_19 := Bk 0 C163_18
abbrev C163_20 := Sq [3] C163_1 C163_19
abbrev C163_21 := Ro [As 2 kF]
abbrev C163_22 := Sq [2] C163_21 .ret
abbrev C163_23 := Sq [] C163_20 C163_22
abbrev C163_24 := Sq [0] C163_0 C163_23
abbrev C163 := C163_24
abbrev C163r : List RV := [.t 2]
theorem C163ok : Okf Tryz.prog 163 Tryz.f163 C163 C163r := ⟨Tryz.func163, by kernel_rfl, by kernel_rfl, by kernel_rfl⟩

abbrev C164_0 := Ro [As 6 kF]
abbrev C164_1 := Ro [Mv 10 t0,Mv 11 t1,Ca 12 148 [t10,t11],Mv 9 t12,Ex 13 0 t9,Ex 14 1 t9,As 7 t13,As 8 t14]
abbrev C164_2 := Ro [Mv 15 t8,Mv 16 t15,Mvt 17 16 t7,Mvt 18 16 t2,Bnt 19 16 .eql t17 t18,Pk 20 t16 t19 kF,As 6 t20]
abbrev C164_3 := Sq [6] C164_2 .ret
abbrev C164_4 := Sq [2,7,8] C164_1 C164_3
abbrev C164_5 := Sq [0,1,2] C164_0 C164_4
abbrev C164 := C164_5
abbrev C164r : List RV := [.t 6]
theorem C164ok : Okf Tryz.prog 164 Tryz.f164 C164 C164r := ⟨Tryz.func164, by kernel_rfl, by kernel_rfl, by kernel_rfl⟩

abbrev C165_0 := Ro [As 2 (kI 0)]
abbrev C165_1 := Ro [Mv 4 t0,Cv 5 .i64 t4,Ca 6 159 [t5],As 3 t6]
abbrev C165_2 := Ro [Mv 7 t3,Bn 8 .neq t7 (kI 0)]
abbrev C165_3 := Ro [Mv 9 t3,As 2 t9]
abbrev C165_4 := Sq [2] C165_3 .ret
abbrev C165_5 := Cd t8 C165_4 .skip
abbrev C165_6 := Sq [0,3,8] C165_2 C165_5
abbrev C165_7 := Sq [0,3] C165_1 C165_6
abbrev C165_8 := Ro [Mv 10 t0,Cv 11 .i64 t10,As 2 t11]
abbrev C165_9 := Sq [2] C165_8 .ret
abbrev C165_10 := Sq [0] C165_7 C165_9
abbrev C165_11 := Sq [0] C165_0 C165_10
abbrev C165 := C165_11
abbrev C165r : List RV := [.t 2]
theorem C165ok : Okf Tryz.prog 165 Tryz.f165 C165 C165r := ⟨Tryz.func165, by kernel_rfl, by kernel_rfl, by kernel_rfl⟩

abbrev C166_0 := Ro [As 2 kF]
abbrev C166_1 := Ro [Mv 3 t0]
abbrev C166_2 := Ro [Bn 5 .eql t3 (kI 28),As 4 t5]
abbrev C166_3 := Ro [Bn 6 .eql t3 (kI 36),As 4 t6]
abbrev C166_4 := Ro [Bn 7 .eql t3 (kI 33),As 4 t7]
abbrev C166_5 := Ro [Bn 8 .eql t3 (kI 37),As 4 t8]
abbrev C166_6 := Ro [Bn 9 .eql t3 (kI 50),As 4 t9]
abbrev C166_7 := Ro [Bn 10 .eql t3 (kI 51),As 4 t10]
abbrev C166_8 := Ro [Bn 11 .eql t3 (kI 53),As 4 t11]
abbrev C166_9 := Cd t4 .skip C166_8
abbrev C166_10 := Sq [3,4] C166_7 C166_9
abbrev C166_11 := Cd t4 .skip C166_10
abbrev C166_12 := Sq [3,4] C166_6 C166_11
abbrev C166_13 := Cd t4 .skip C166_12
abbrev C166_14 := Sq [3,4] C166_5 C166_13
abbrev C166_15 := Cd t4 .skip C166_14
abbrev C166_16 := Sq [3,4] C166_4 C166_15
abbrev C166_17 := Cd t4 .skip C166_16
abbrev C166_18 := Sq [3,4] C166_3 C166_17
abbrev C166_19 := Cd t4 .skip C166_18
abbrev C166_20 := Sq [3,4] C166_2 C166_19
abbrev C166_21 := Ro [As 2 kT]
abbrev C166_22 := Sq [2] C166_21 .ret
abbrev C166_23 := Cd t4 C166_22 .skip
abbrev C166_24 := Sq [4] C166_20 C166_23
abbrev C166_25 := Bk 0 C166_24
abbrev C166_26 := Sq [3] C166_1 C166_25
abbrev C166_27 := Ro [As 2 kF]
abbrev C166_28 := Sq [2] C166_27 .ret
abbrev C166_29 := Sq [] C166_26 C166_28
abbrev C166_30 := Sq [0] C166_0 C166_29
abbrev C166 := C166_30
abbrev C166r : List RV := [.t 2]
theorem C166ok : Okf Tryz.prog 166 Tryz.f166 C166 C166r := ⟨Tryz.func166, by kernel_rfl, by kernel_rfl, by kernel_rfl⟩

abbrev C167_0 := Ro [As 2 (kU 0)]
abbrev C167_1 := Ro [Mv 3 t0]
abbrev C167_2 := Ro [As 2 (kU 1)]
abbrev C167_3 := Sq [2] C167_2 .ret
abbrev C167_4 := Cd t3 C167_3 .skip
abbrev C167_5 := Sq [3] C167_1 C167_4
abbrev C167_6 := Ro [As 2 (kU 0)]
abbrev C167_7 := Sq [2] C167_6 .ret
abbrev C167_8 := Sq [] C167_5 C167_7
abbrev C167_9 := Sq [0] C167_0 C167_8
abbrev C167 := C167_9
abbrev C167r : List RV := [.t 2]
theorem C167ok : Okf Tryz.prog 167 Tryz.f167 C167 C167r := ⟨Tryz.func167, by kernel_rfl, by kernel_rfl, by kernel_rfl⟩

abbrev C168_0 := Ro [As 8 (kU 0)]
abbrev C168_1 := Ro [Mv 12 t0,Mv 13 t1,Ca 14 170 [t12,t13],Mv 11 t14,Ex 15 0 t11,Ex 16 1 t11,As 9 t15,As 10 t16]
abbrev C168_2 := Ro [Mv 17 t2,Mv 18 t17,Mvt 19 18 t0,Cat 20 18 171 [t19],Pk 21 t18 t20 kF]
abbrev C168_3 := Ro [Mv 22 t9,Mv 23 t1,Bn 24 .sub t22 t23,As 9 t24]
abbrev C168_4 := Cd t21 C168_3 .skip
abbrev C168_5 := Sq [0,1,3,9,21] C168_2 C168_4
abbrev C168_6 := Ro [Mv 25 t3,Mv 26 t25,Mvt 27 26 t1,Cat 28 26 171 [t27],Pk 29 t26 t28 kF]
abbrev C168_7 := Ro [Mv 30 t9,Mv 31 t0,Bn 32 .sub t30 t31,As 9 t32]
abbrev C168_8 := Cd t29 C168_7 .skip
abbrev C168_9 := Sq [0,9,29] C168_6 C168_8
abbrev C168_10 := Ro [Mv 33 t9,As 8 t33]
abbrev C168_11 := Sq [8] C168_10 .ret
abbrev C168_12 := Sq [9] C168_9 C168_11
abbrev C168_13 := Sq [0,1,3,9] C168_5 C168_12
abbrev C168_14 := Sq [0,1,2,3,9] C168_1 C168_13
abbrev C168_15 := Sq [0,1,2,3] C168_0 C168_14
abbrev C168 := C168_15
abbrev C168r : List RV := [.t 8]
theorem C168ok : Okf Tryz.prog 168 Tryz.f168 C168 C168r := ⟨Tryz.func168, by kernel_rfl, by kernel_rfl, by kernel_rfl⟩

abbrev C169_0 := Ro [As 6 (kU 0),As 7 (kU 0)]
abbrev C169_1 := Ro [Mv 9 t1,Bn 10 .eql t9 (kU 0),As 8 t10]
abbrev C169_2 := Ro [Mv 11 t0,As 6 (kU 4294967295),As 7 t11]
abbrev C169_3 := Sq [6,7] C169_2 .ret
abbrev C169_4 := Ro [Mv 13 t2,As 12 t13]
abbrev C169_5 := Ro [Mv 14 t0,Mv 15 t1,Ca 16 172 [t14,t15],Ex 17 0 t16,Ex 18 1 t16,As 6 t17,As 7 t18]
abbrev C169_6 := Sq [6,7] C169_5 .ret
abbrev C169_7 := Cd t12 C169_6 .skip
abbrev C169_8 := Sq [0,1,12] C169_4 C169_7
abbrev C169_9 := Cd t8 C169_3 C169_8
abbrev C169_10 := Sq [0,1,2,8] C169_1 C169_9
abbrev C169_11 := Bk 0 C169_10
abbrev C169_12 := Dr [Mv 19 t0,Mv 20 t1,Bn 21 .quo t19 t20,Mv 22 t0,Mv 23 t1,Bn 24 .rem t22 t23,As 6 t21,As 7 t24] [[],[],[0,1],[],[],[3,4],[2,0,1,2],[5,6,0,1,2,3,4,5,6]] [(0,[]),(1,[]),(2,[]),(3,[]),(4,[]),(5,[]),(6,[3,4,5]),(7,[])]
abbrev C169_13 := Sq [6,7] C169_12 .ret
abbrev C169_14 := Sq [0,1] C169_11 C169_13
abbrev C169_15 := Sq [0,1,2] C169_0 C169_14
abbrev C169 := C169_15
abbrev C169r : List RV := [.t 6,.t 7]
theorem C169ok : Okf Tryz.prog 169 Tryz.f169 C169 C169r := ⟨Tryz.func169, by kernel_rfl, by kernel_rfl, by kernel_rfl⟩

abbrev C170_0 := Ro [As 4 (kU 0),As 5 (kU 0)]
abbrev C170_1 := Ro [Mv 13 t0,Bn 14 .shr t13 (kL 16),Mv 15 t0,Bn 16 .and t15 (kU 65535),As 6 t14,As 7 t16]
abbrev C170_2 := Ro [Mv 17 t1,Bn 18 .shr t17 (kL 16),Mv 19 t1,Bn 20 .and t19 (kU 65535),As 8 t18,As 9 t20]
abbrev C170_3 := Ro [Mv 21 t7,Mv 22 t9,Bn 23 .mul t21 t22,As 10 t23]
abbrev C170_4 := Ro [Mv 24 t6,Mv 25 t9,Bn 26 .mul t24 t25,Mv 27 t10,Bn 28 .shr t27 (kL 16),Bn 29 .add t26 t28,As 11 t29]
abbrev C170_5 := Ro [Mv 30 t7,Mv 31 t8,Bn 32 .mul t30 t31,Mv 33 t11,Bn 34 .and t33 (kU 65535),Bn 35 .add t32 t34,As 12 t35]
abbrev C170_6 := Ro [Mv 36 t6,Mv 37 t8,Bn 38 .mul t36 t37,Mv 39 t11,Bn 40 .shr t39 (kL 16),Bn 41 .add t38 t40,Mv 42 t12,Bn 43 .shr t42 (kL 16),Bn 44 .add t41 t43,Mv 45 t0,Mv 46 t1,Bn 47 .mul t45 t46,As 4 t44,As 5 t47]
abbrev C170_7 := Sq [4,5] C170_6 .ret
abbrev C170_8 := Sq [0,1,6,8,11,12] C170_5 C170_7
abbrev C170_9 := Sq [0,1,6,7,8,11] C170_4 C170_8
abbrev C170_10 := Sq [0,1,6,7,8,9,10] C170_3 C170_9
abbrev C170_11 := Sq [0,1,6,7,8,9] C170_2 C170_10
abbrev C170_12 := Sq [0,1,6,7] C170_1 C170_11
abbrev C170_13 := Sq [0,1] C170_0 C170_12
abbrev C170 := C170_13
abbrev C170r : List RV := [.t 4,.t 5]
theorem C170ok : Okf Tryz.prog 170 Tryz.f170 C170 C170r := ⟨Tryz.func170, by kernel_rfl, by kernel_rfl, by kernel_rfl⟩

abbrev C171_0 := Ro [As 2 kF]
abbrev C171_1 := Ro [Mv 3 t0,Bn 4 .shr t3 (kL 31),Bn 5 .eql t4 (kU 1),As 2 t5]
abbrev C171_2 := Sq [2] C171_1 .ret
abbrev C171_3 := Sq [0] C171_0 C171_2
abbrev C171 := C171_3
abbrev C171r : List RV := [.t 2]
theorem C171ok : Okf Tryz.prog 171 Tryz.f171 C171 C171r := ⟨Tryz.func171, by kernel_rfl, by kernel_rfl, by kernel_rfl⟩

abbrev C172_0 := Ro [⟨(some 2),none,.e (.box t0)⟩,⟨(some 3),none,.e (.box t1)⟩,Al 4 [.int .u32 0],Al 5 [.int .u32 0]]
abbrev C172_1 := Dr [Ld 7 none t2,Ca 8 174 [t7],Ld 9 none t3,Ca 10 174 [t9],Bn 11 .quo t8 t10,Ld 12 none t2,Ca 13 174 [t12],Ld 14 none t3,Ca 15 174 [t14],Bn 16 .rem t13 t15,Sxn 1 t4 t11,Sxn 1 t5 t16] [[],[0],[],[2,1],[1,3],[],[5,3],[],[7,6],[6,8],[4,8,0,1,2,3,4],[9,10,0,1,2,3,4,5,6,7,8,9,10]] [(0,[]),(2,[]),(5,[]),(7,[]),(1,[2,5,7]),(3,[5,7]),(4,[]),(6,[7,4]),(8,[4]),(9,[]),(10,[9]),(11,[])]
abbrev C172_2 := Sq [4,5] C172_1 .ret
abbrev C172x : ACode := C172_0
abbrev C172 := C172_2
abbrev C172r : List RV := [.c 4 none,.c 5 none]
abbrev C172d : Nat × Nat × List Operand := (6,173,[t2,t3,t4,t5]) -- .mkf 173
theorem C172ok : Okd Tryz.prog 172 Tryz.f172 C172x C172d C172 C172r := ⟨Tryz.func172, by kernel_rfl, by kernel_rfl, by kernel_rfl, by kernel_rfl⟩

abbrev C173_0 := Dr [Ld 4 none t0,Ca 5 171 [t4],Ld 6 none t1,Ca 7 171 [t6],⟨(some 8),none,.r (.eqb true t5 t7)⟩] [[],[0],[],[2,1],[1,3]] [(0,[]),(2,[]),(1,[2]),(3,[]),(4,[])]
abbrev C173_1 := Ro [Ld 9 none t2,Un 10 .neg t9,Sxn 1 t2 t10]
abbrev C173_2 := Cd t8 C173_1 .skip
abbrev C173_3 := Sq [0,2,3,8] C173_0 C173_2
abbrev C173_4 := Ro [Ld 11 none t0,Ca 12 171 [t11]]
abbrev C173_5 := Ro [Ld 13 none t3,Un 14 .neg t13,Sxn 1 t3 t14]
abbrev C173_6 := Cd t12 C173_5 .skip
abbrev C173_7 := Sq [3,12] C173_4 C173_6
abbrev C173_8 := Sq [0,3] C173_3 C173_7
abbrev C173 := C173_8
abbrev C173r : List RV := []
theorem C173ok : Okf Tryz.prog 173 Tryz.f173 C173 C173r := ⟨Tryz.func173, by kernel_rfl, by kernel_rfl, by kernel_rfl⟩

abbrev C174_0 := Ro [As 2 (kU 0)]
abbrev C174_1 := Ro [Mv 3 t0,Ca 4 171 [t3]]
abbrev C174_2 := Ro [Mv 5 t0,Un 6 .neg t5,As 2 t6]
abbrev C174_3 := Sq [2] C174_2 .ret
abbrev C174_4 := Cd t4 C174_3 .skip
abbrev C174_5 := Sq [0,4] C174_1 C174_4
abbrev C174_6 := Ro [Mv 7 t0,As 2 t7]
abbrev C174_7 := Sq [2] C174_6 .ret
abbrev C174_8 := Sq [0] C174_5 C174_7
abbrev C174_9 := Sq [0] C174_0 C174_8
abbrev C174 := C174_9
abbrev C174r : List RV := [.t 2]
theorem C174ok : Okf Tryz.prog 174 Tryz.f174 C174 C174r := ⟨Tryz.func174, by kernel_rfl, by kernel_rfl, by kernel_rfl⟩
end Go.Ab
end
section
namespace Go.Ab
open Go.Proofs
variable {G : Glo} {h : Heap}
theorem rHas7_spec (n : Int) : Spec Tryz.prog G 112 [.int .i64 n] h (Is (.bool (decide (19 ≤ n) && decide (n ≤ 37))) h) := by
 refine Spec.is C112ok rfl ?_
 simp only [push_cast, simprocAttr]
theorem rHas8_spec (n : Int) : Spec Tryz.prog G 87 [.int .i64 n] h (Is (.bool (decide (50 ≤ n) && decide (n ≤ 57))) h) := by
 refine Spec.is C87ok rfl ?_
 simp only [push_cast, simprocAttr]
theorem aHas_spec (n : Int) : Spec Tryz.prog G 157 [.int .i64 n] h (Is (.bool (decide (19 ≤ n) && decide (n ≤ 37))) h) := by
 refine Spec.is C157ok rfl ?_
 simp only [push_cast, simprocAttr]
theorem mHas_spec (n : Int) : Spec Tryz.prog G 158 [.int .i64 n] h (Is (.bool (decide (50 ≤ n) && decide (n ≤ 57))) h) := by
 refine Spec.is C158ok rfl ?_
 simp only [push_cast, simprocAttr]
theorem rReckons_spec (n : Int) : Spec Tryz.prog G 75 [.int .i64 n] h (Is (.bool (reckonsN n)) h) := by
 refine Spec.is C75ok rfl ?_
 simp only [push_cast, simprocAttr]
 refine (rHas7_spec n).to ?_
 simp only [push_cast, simprocAttr, reckonsN]
 refine ⟨fun h1 => (rHas8_spec n).to ?_, fun h1 => ?_⟩
 ·simp only [push_cast, simprocAttr]
  rw [h1]; rfl
 ·(first | rfl | (congr 1; done) | (congr 1; rw [Bool.eq_iff_iff]; simp only [Bool.and_eq_true, Bool.or_eq_true, Bool.not_eq_true', decide_eq_true_eq, decide_eq_false_iff_not, Bool.false_eq_true, true_and, and_true]; first | omega | grind))
theorem Reckons_spec (n : Int) : Spec Tryz.prog G 143 [.int .i64 n] h (Is (.bool (reckonsN n)) h) := by
 refine Spec.is C143ok rfl ?_
 simp only [push_cast, simprocAttr]
 refine (aHas_spec n).to ?_
 simp only [push_cast, simprocAttr, reckonsN]
 refine ⟨fun h1 => (mHas_spec n).to ?_, fun h1 => ?_⟩
 ·simp only [push_cast, simprocAttr]
  rw [h1]; rfl
 ·(first | rfl | (congr 1; done) | (congr 1; rw [Bool.eq_iff_iff]; simp only [Bool.and_eq_true, Bool.or_eq_true, Bool.not_eq_true', decide_eq_true_eq, decide_eq_false_iff_not, Bool.false_eq_true, true_and, and_true]; first | omega | grind))
theorem rLoads_spec (n : Int) : Spec Tryz.prog G 48 [.int .i64 n] h (Is (.int .i64 (loadsN n)) h) := by
 refine Spec.is C48ok rfl ?_
 simp only [push_cast, simprocAttr, loadsN]
 grind
theorem Loads_spec (n : Int) : Spec Tryz.prog G 144 [.int .i64 n] h (Is (.int .i64 (loadsN n)) h) := by
 refine Spec.is C144ok rfl ?_
 simp only [push_cast, simprocAttr, loadsN]
 (repeat' (first | apply And.intro | intro _)) <;> simp_all
theorem rStores_spec (n : Int) : Spec Tryz.prog G 53 [.int .i64 n] h (Is (.int .i64 (storesN n)) h) := by
 refine Spec.is C53ok rfl ?_
 simp only [push_cast, simprocAttr, storesN]
 grind
theorem Stores_spec (n : Int) : Spec Tryz.prog G 145 [.int .i64 n] h (Is (.int .i64 (storesN n)) h) := by
 refine Spec.is C145ok rfl ?_
 simp only [push_cast, simprocAttr, storesN]
 grind
theorem Valued_spec (n : Int) : Spec Tryz.prog G 146 [.int .i64 n] h (Is (.bool (decide (1 ≤ n) && decide (n ≤ 4))) h) := by
 refine Spec.is C146ok rfl ?_
 simp only [push_cast, simprocAttr]
theorem rValue_spec (b : IBk) (n ahead : Int) : Spec Tryz.prog G 76 [.agg b.cells, .int .i64 n, .int .i64 ahead] h (Is (.bool (b.val n ahead)) h) := by
 refine Spec.is C76ok rfl ?_
 simp only [push_cast, simprocAttr]
 refine ⟨fun h1 => ?_, fun h1 => ?_⟩
 ·have e : n.toNat < b.ops.length := by omega
  refine ⟨by omega, e, fun h2 => ⟨by omega, e, ?_⟩, fun h2 => ?_⟩
  all_goals simp only [IBk.val, IBk.op]
  ·(first | rfl | (congr 1; done) | (congr 1; rw [Bool.eq_iff_iff]; simp only [Bool.and_eq_true, Bool.or_eq_true, Bool.not_eq_true', decide_eq_true_eq, decide_eq_false_iff_not, Bool.false_eq_true, true_and, and_true]; first | omega | grind))
  ·(first | rfl | (congr 1; done) | (congr 1; rw [Bool.eq_iff_iff]; simp only [Bool.and_eq_true, Bool.or_eq_true, Bool.not_eq_true', decide_eq_true_eq, decide_eq_false_iff_not, Bool.false_eq_true, true_and, and_true]; first | omega | grind))
 ·simp only [IBk.val]; rw [h1]; rfl
theorem value_spec (b : IBk) (n ahead : Int) : Spec Tryz.prog G 128 [.agg [bkP b], .int .i64 n, .int .i64 ahead] h (Is (.bool (b.val n ahead)) h) := by
 refine Spec.is C128ok rfl ?_
 simp only [push_cast, simprocAttr, bkP]
 refine ⟨fun h1 => ⟨by omega, by omega, ?_⟩, fun h1 => ?_⟩
 ·refine (Valued_spec _).to ?_
  simp only [push_cast, simprocAttr]
  simp only [IBk.val, IBk.op]
  (first | rfl | (congr 1; done) | (congr 1; rw [Bool.eq_iff_iff]; simp only [Bool.and_eq_true, Bool.or_eq_true, Bool.not_eq_true', decide_eq_true_eq, decide_eq_false_iff_not, Bool.false_eq_true, true_and, and_true]; first | omega | grind))
 ·simp only [IBk.val]; rw [h1]; rfl
theorem getD_map {b : IBk} {n M : Nat} (hm : ∀ e ∈ b.exits, e.map.length ≤ M) : (b.exits.getD n IEx.zero).map.length ≤ M := by
 by_cases hn : n < b.exits.length
 ·have : b.exits.getD n IEx.zero = b.exits[n] := by simp [hn]
  rw [this]
  exact hm _ (List.getElem_mem _)
 ·have : b.exits.getD n IEx.zero = IEx.zero := by simp [Nat.not_lt.1 hn]
  rw [this]
  simp [IEx.zero]
theorem rexit_spec (b : IBk) (n ahead : Int) (hm : ∀ e ∈ b.exits, e.map.length ≤ 140737488355328) : Spec Tryz.prog G 37 [.agg b.cells, .int .i64 n, .int .i64 ahead] h (Is (.bool (b.exit n ahead)) h) := by
 refine Spec.is C37ok rfl ?_
 simp only [push_cast, simprocAttr]
 refine ⟨fun h1 => ?_, fun h1 => ⟨by omega, by omega, fun c hc => ?_⟩⟩
 ·simp only [IBk.exit]
  (first | rfl | (congr 1; done) | (congr 1; rw [Bool.eq_iff_iff]; simp only [Bool.and_eq_true, Bool.or_eq_true, Bool.not_eq_true', decide_eq_true_eq, decide_eq_false_iff_not, Bool.false_eq_true, true_and, and_true]; first | omega | grind))
 ·rw [era_none hc]
  have hl := getD_map (n := n.toNat) hm
  have hE : b.exit n ahead = ((decide ((b.ex n.toNat).to = -1) || b.val (b.ex n.toNat).to ahead) && allN (b.ex n.toNat).map.length fun i => b.val ((b.ex n.toNat).vl i).val ahead) := by
   simp only [IBk.exit]
   rw [decide_eq_true (by omega), decide_eq_true (by omega)]
   simp
  rw [hE]
  clear hE
  generalize hEx : b.ex n.toNat = e
  have hEy : b.exits.getD n.toNat IEx.zero = e := hEx
  rw [hEy] at hl ⊢
  refine lpc.rel [2, 3, 7, 8] (fun m ρ h' => ∃ k : Nat, m = e.map.length - k ∧ k ≤ e.map.length ∧ h = h' ∧ (∀ i, i < k → b.val (e.vl i).val ahead = true) ∧
   ρ = [(2, .int .i64 ahead), (3, .cp b.cells 0), (7, .cp e.cells 0), (8, .int .i64 (k : Int))]) ⟨_, 0, rfl, by omega, rfl, by intro i hi; omega, rfl⟩ ?_
  rintro m _ _ ⟨k, rfl, hk, rfl, hall, rfl⟩
  simp only [push_cast, simprocAttr]
  refine ⟨fun hk2 => ⟨by omega, by omega, (rValue_spec b _ ahead).to ?_⟩, fun hk2 => ?_⟩
  ·simp (disch := omega) only [push_cast, simprocAttr, wrap_i64, toNat_ofInt64, Nat.min_eq_left, Int.toNat_of_nonneg]
   refine ⟨fun hv => ?_, fun hv => ?_⟩
   ·rw [allN_false k hk2 hv, Bool.and_false]
   ·refine ⟨_, _, by omega, .refl _, k + 1, rfl, by omega, rfl, fun i hi => ?_, rfl⟩
    by_cases hik : i = k
    ·subst hik; exact hv
    ·exact hall i (by omega)
  ·obtain rfl : k = e.map.length := by omega
   rw [allN_true hall, Bool.and_true]
   refine ⟨fun h2 => (rValue_spec b _ ahead).to ?_, fun h2 => ?_⟩
   ·simp only [push_cast, simprocAttr]
    rw [decide_eq_false h2, Bool.false_or]
   ·rw [decide_eq_true h2, Bool.true_or]
theorem exitF_spec (b : IBk) (v : IVl) (ahead : Int) : Spec Tryz.prog G 131 [.agg v.cells, .cp [bkP b] 0, .cp [.int .i64 ahead] 0] h (Is (.bool (! b.val v.val ahead)) h) := by
 refine Spec.is C131ok rfl ?_
 simp only [push_cast, simprocAttr]
 refine (value_spec b _ ahead).to ?_
 simp only [push_cast, simprocAttr]
theorem indexV_spec (b : IBk) (l : List IVl) (ahead : Int) (hl : l.length ≤ 140737488355328) : Spec Tryz.prog G 147 [vls l, .fn 131 [] [.cp [bkP b] 0, .cp [.int .i64 ahead] 0]] h
  (fun r h' => h = h' ∧ ∃ j : Int, r = .int .i64 j ∧ (decide (j ≥ 0) = ! allN l.length fun i => b.val (l.getD i IVl.zero).val ahead)) := by
 refine Spec.drop (Spec.mono (Q := fun r h' => Sub h h' ∧ ∃ j : Int, r = .int .i64 j ∧ (decide (j ≥ 0) = ! allN l.length fun i => b.val (l.getD i IVl.zero).val ahead)) ?_ fun r h' hq => ⟨h, hq.1, rfl, hq.2⟩)
 refine Spec.walk C147ok rfl ?_
 simp only [push_cast, simprocAttr]
 refine lpc.rel [0, 1, 7, 8] (fun m ρ h' => ∃ k : Nat, m = l.length - k ∧ k ≤ l.length ∧ h = h' ∧ (∀ i, i < k → b.val (l.getD i IVl.zero).val ahead = true) ∧
  ρ = [(0, vls l), (1, .fn 131 [] [.cp [bkP b] 0, .cp [.int .i64 ahead] 0]), (7, .int .i64 (l.length : Int)), (8, .int .i64 (k : Int))]) ⟨_, 0, rfl, by omega, rfl, by intro i hi; omega, rfl⟩ ?_
 rintro m _ _ ⟨k, rfl, hk, rfl, hall, rfl⟩
 simp only [push_cast, simprocAttr]
 refine ⟨fun hk2 => ⟨hk2, hk2, ⟨_, C131ok.hf, rfl, rfl⟩, (exitF_spec b _ ahead).to ?_⟩, fun hk2 => ?_⟩
 ·simp (disch := omega) only [push_cast, simprocAttr, wrap_i64, toNat_ofInt64, Nat.min_eq_left, Int.toNat_of_nonneg]
  refine ⟨fun hv => ?_, fun hv => ?_⟩
  ·rw [allN_false k hk2 hv]
   refine ⟨(k : Int), rfl, by simp⟩
  ·refine ⟨_, _, by omega, .refl _, k + 1, rfl, by omega, rfl, fun i hi => ?_, rfl⟩
   by_cases hik : i = k
   ·subst hik; exact hv
   ·exact hall i (by omega)
 ·obtain rfl : k = l.length := by omega
  rw [allN_true hall]
  exact ⟨-1, rfl, rfl⟩
theorem containsV_spec (b : IBk) (l : List IVl) (ahead : Int) (hl : l.length ≤ 140737488355328) : Spec Tryz.prog G 130 [vls l, .fn 131 [] [.cp [bkP b] 0, .cp [.int .i64 ahead] 0]] h (Is (.bool (! allN l.length fun i => b.val (l.getD i IVl.zero).val ahead)) h) := by
 refine Spec.is C130ok rfl ?_
 simp only [push_cast, simprocAttr]
 refine (indexV_spec b l ahead hl).mono ?_
 rintro _ _ ⟨rfl, j, rfl, hj⟩
 simp only [push_cast, simprocAttr]
 rw [hj]
theorem exit_spec (b : IBk) (n ahead : Int) (hm : ∀ e ∈ b.exits, e.map.length ≤ 140737488355328) : Spec Tryz.prog G 103 [.agg [bkP b], .int .i64 n, .int .i64 ahead] h (Is (.bool (b.exit n ahead)) h) := by
 refine Spec.is C103ok rfl ?_
 simp only [push_cast, simprocAttr]
 refine ⟨fun h1 => ?_, fun h1 => ⟨by omega, by omega, fun c hc => ?_⟩⟩
 ·simp only [IBk.exit]
  (first | rfl | (congr 1; done) | (congr 1; rw [Bool.eq_iff_iff]; simp only [Bool.and_eq_true, Bool.or_eq_true, Bool.not_eq_true', decide_eq_true_eq, decide_eq_false_iff_not, Bool.false_eq_true, true_and, and_true]; first | omega | grind))
 ·rw [era_none hc]
  have hl := getD_map (n := n.toNat) hm
  have hE : b.exit n ahead = ((decide ((b.ex n.toNat).to = -1) || b.val (b.ex n.toNat).to ahead) && allN (b.ex n.toNat).map.length fun i => b.val ((b.ex n.toNat).vl i).val ahead) := by
   simp only [IBk.exit]
   rw [decide_eq_true (by omega), decide_eq_true (by omega)]
   simp
  rw [hE]
  clear hE
  generalize hEx : b.ex n.toNat = e
  have hEy : b.exits.getD n.toNat IEx.zero = e := hEx
  rw [hEy] at hl ⊢
  have hA : (allN e.map.length fun i => b.val (e.map.getD i IVl.zero).val ahead) = allN e.map.length fun i => b.val (e.vl i).val ahead := rfl
  refine ⟨fun h2 => (value_spec b _ ahead).to ?_, fun h2 => (containsV_spec b e.map ahead hl).to ?_⟩
  ·simp only [push_cast, simprocAttr]
   refine ⟨fun h3 => ?_, fun h3 => (containsV_spec b e.map ahead hl).to ?_⟩
   ·rw [decide_eq_false h2, h3]; rfl
   ·simp only [push_cast, simprocAttr]
    rw [decide_eq_false h2, h3, hA, Bool.not_not]; rfl
  ·simp only [push_cast, simprocAttr]
   rw [decide_eq_true h2, hA, Bool.not_not]; rfl
end Go.Ab
end
section
namespace Go.Ab
open Go.Proofs
variable {G : Glo} {h : Heap}
theorem opR_eq (b : IBk) (k : Nat) {o : IOp} (ho : b.ops.getD k IOp.zero = o) : b.opR k =
 if o.code = 1 then decide (1 ≤ (o.imm.toNat : Int)) && decide ((o.imm.toNat : Int) ≤ 31) && decide (o.x = 0) && decide (o.y = 0) && decide (o.a = 0) && decide (o.b = 0)
 else if o.code = 2 then decide (o.x = 0) && decide (o.y = 0) && decide (o.a = 0) && decide (o.b = 0)
 else if o.code = 3 then reckonsN o.imm.toNat && decide (o.x = 0) && decide (o.y = 0) && b.val o.a k && b.val o.b k
 else if o.code = 4 then decide (0 < loadsN o.imm.toNat) && decide (o.y = 0) && decide (o.b = 0) && b.val o.a k && b.exit o.x k
 else if o.code = 5 then decide (0 < storesN o.imm.toNat) && b.val o.a k && b.val o.b k && b.exit o.x k && b.exit o.y k
 else if o.code = 6 then decide (5 ≤ (o.imm.toNat : Int)) && decide ((o.imm.toNat : Int) ≤ 10) && decide (o.y = 0) && b.val o.a k && b.val o.b k && b.exit o.x k
 else false := by subst ho; rfl
theorem rop_spec (b : IBk) (k : Nat) (hk : k < b.ops.length) (hm : ∀ e ∈ b.exits, e.map.length ≤ 140737488355328) : Spec Tryz.prog G 35 [.agg b.cells, .int .i64 k] h (Is (.bool (b.opR k)) h) := by
 refine Spec.is C35ok rfl ?_
 simp only [push_cast, simprocAttr]
 refine ⟨hk, hk, fun c hc => ?_⟩
 rw [era_none hc]
 generalize ho : b.ops.getD k IOp.zero = o
 have hR := opR_eq b k ho
 generalize b.opR k = R at hR ⊢
 simp only [push_cast, simprocAttr]
 refine ⟨fun h1 => ?_, fun h1 => ⟨fun h2 => ?_, fun h2 => ⟨fun h3 => (rReckons_spec _).to ?_, fun h3 => ⟨fun h4 => (rLoads_spec _).to ?_, fun h4 => ⟨fun h5 => (rStores_spec _).to ?_, fun h5 => ⟨fun h6 => ?_, fun h6 => ?_⟩⟩⟩⟩⟩⟩
 ·rw [if_pos h1] at hR
  rw [hR]
  (first | rfl | (congr 1; done) | (congr 1; rw [Bool.eq_iff_iff]; simp only [Bool.and_eq_true, Bool.or_eq_true, Bool.not_eq_true', decide_eq_true_eq, decide_eq_false_iff_not, Bool.false_eq_true, true_and, and_true]; first | omega | grind))
 ·rw [if_neg h1, if_pos h2] at hR
  rw [hR]
  (first | rfl | (congr 1; done) | (congr 1; rw [Bool.eq_iff_iff]; simp only [Bool.and_eq_true, Bool.or_eq_true, Bool.not_eq_true', decide_eq_true_eq, decide_eq_false_iff_not, Bool.false_eq_true, true_and, and_true]; first | omega | grind))
 ·rw [if_neg h1, if_neg h2, if_pos h3] at hR
  simp only [push_cast, simprocAttr]
  refine ⟨fun g1 => (rValue_spec b _ _).to ?_, fun g1 => ?_⟩
  ·simp only [push_cast, simprocAttr]
   refine ⟨fun g2 => (rValue_spec b _ _).to ?_, fun g2 => ?_⟩
   ·simp only [push_cast, simprocAttr]
    rw [hR]
    (first | rfl | (congr 1; done) | (congr 1; rw [Bool.eq_iff_iff]; simp only [Bool.and_eq_true, Bool.or_eq_true, Bool.not_eq_true', decide_eq_true_eq, decide_eq_false_iff_not, Bool.false_eq_true, true_and, and_true]; first | omega | grind))
   ·rw [hR]
    (first | rfl | (congr 1; done) | (congr 1; rw [Bool.eq_iff_iff]; simp only [Bool.and_eq_true, Bool.or_eq_true, Bool.not_eq_true', decide_eq_true_eq, decide_eq_false_iff_not, Bool.false_eq_true, true_and, and_true]; first | omega | grind))
  ·rw [hR]
   (first | rfl | (congr 1; done) | (congr 1; rw [Bool.eq_iff_iff]; simp only [Bool.and_eq_true, Bool.or_eq_true, Bool.not_eq_true', decide_eq_true_eq, decide_eq_false_iff_not, Bool.false_eq_true, true_and, and_true]; first | omega | grind))
 ·rw [if_neg h1, if_neg h2, if_neg h3, if_pos h4] at hR
  simp only [push_cast, simprocAttr]
  refine ⟨fun g1 => (rValue_spec b _ _).to ?_, fun g1 => ?_⟩
  ·simp only [push_cast, simprocAttr]
   refine ⟨fun g2 => (rexit_spec b _ _ hm).to ?_, fun g2 => ?_⟩
   ·simp only [push_cast, simprocAttr]
    rw [hR]
    (first | rfl | (congr 1; done) | (congr 1; rw [Bool.eq_iff_iff]; simp only [Bool.and_eq_true, Bool.or_eq_true, Bool.not_eq_true', decide_eq_true_eq, decide_eq_false_iff_not, Bool.false_eq_true, true_and, and_true]; first | omega | grind))
   ·rw [hR]
    (first | rfl | (congr 1; done) | (congr 1; rw [Bool.eq_iff_iff]; simp only [Bool.and_eq_true, Bool.or_eq_true, Bool.not_eq_true', decide_eq_true_eq, decide_eq_false_iff_not, Bool.false_eq_true, true_and, and_true]; first | omega | grind))
  ·rw [hR]
   (first | rfl | (congr 1; done) | (congr 1; rw [Bool.eq_iff_iff]; simp only [Bool.and_eq_true, Bool.or_eq_true, Bool.not_eq_true', decide_eq_true_eq, decide_eq_false_iff_not, Bool.false_eq_true, true_and, and_true]; first | omega | grind))
 ·rw [if_neg h1, if_neg h2, if_neg h3, if_neg h4, if_pos h5] at hR
  simp only [push_cast, simprocAttr]
  refine ⟨fun g1 => (rValue_spec b _ _).to ?_, fun g1 => ?_⟩
  ·simp only [push_cast, simprocAttr]
   refine ⟨fun g2 => (rValue_spec b _ _).to ?_, fun g2 => ?_⟩
   ·simp only [push_cast, simprocAttr]
    refine ⟨fun g3 => (rexit_spec b _ _ hm).to ?_, fun g3 => ?_⟩
    ·simp only [push_cast, simprocAttr]
     refine ⟨fun g4 => (rexit_spec b _ _ hm).to ?_, fun g4 => ?_⟩
     ·simp only [push_cast, simprocAttr]
      rw [hR]
      (first | rfl | (congr 1; done) | (congr 1; rw [Bool.eq_iff_iff]; simp only [Bool.and_eq_true, Bool.or_eq_true, Bool.not_eq_true', decide_eq_true_eq, decide_eq_false_iff_not, Bool.false_eq_true, true_and, and_true]; first | omega | grind))
     ·rw [hR]
      (first | rfl | (congr 1; done) | (congr 1; rw [Bool.eq_iff_iff]; simp only [Bool.and_eq_true, Bool.or_eq_true, Bool.not_eq_true', decide_eq_true_eq, decide_eq_false_iff_not, Bool.false_eq_true, true_and, and_true]; first | omega | grind))
    ·rw [hR]
     (first | rfl | (congr 1; done) | (congr 1; rw [Bool.eq_iff_iff]; simp only [Bool.and_eq_true, Bool.or_eq_true, Bool.not_eq_true', decide_eq_true_eq, decide_eq_false_iff_not, Bool.false_eq_true, true_and, and_true]; first | omega | grind))
   ·rw [hR]
    (first | rfl | (congr 1; done) | (congr 1; rw [Bool.eq_iff_iff]; simp only [Bool.and_eq_true, Bool.or_eq_true, Bool.not_eq_true', decide_eq_true_eq, decide_eq_false_iff_not, Bool.false_eq_true, true_and, and_true]; first | omega | grind))
  ·rw [hR]
   (first | rfl | (congr 1; done) | (congr 1; rw [Bool.eq_iff_iff]; simp only [Bool.and_eq_true, Bool.or_eq_true, Bool.not_eq_true', decide_eq_true_eq, decide_eq_false_iff_not, Bool.false_eq_true, true_and, and_true]; first | omega | grind))
 ·rw [if_neg h1, if_neg h2, if_neg h3, if_neg h4, if_neg h5, if_pos h6] at hR
  refine ⟨fun g1 => (rValue_spec b _ _).to ?_, fun g1 => ?_⟩
  ·simp only [push_cast, simprocAttr]
   refine ⟨fun g2 => (rValue_spec b _ _).to ?_, fun g2 => ?_⟩
   ·simp only [push_cast, simprocAttr]
    refine ⟨fun g3 => (rexit_spec b _ _ hm).to ?_, fun g3 => ?_⟩
    ·simp only [push_cast, simprocAttr]
     rw [hR]
     (first | rfl | (congr 1; done) | (congr 1; rw [Bool.eq_iff_iff]; simp only [Bool.and_eq_true, Bool.or_eq_true, Bool.not_eq_true', decide_eq_true_eq, decide_eq_false_iff_not, Bool.false_eq_true, true_and, and_true]; first | omega | grind))
    ·rw [hR]
     (first | rfl | (congr 1; done) | (congr 1; rw [Bool.eq_iff_iff]; simp only [Bool.and_eq_true, Bool.or_eq_true, Bool.not_eq_true', decide_eq_true_eq, decide_eq_false_iff_not, Bool.false_eq_true, true_and, and_true]; first | omega | grind))
   ·rw [hR]
    (first | rfl | (congr 1; done) | (congr 1; rw [Bool.eq_iff_iff]; simp only [Bool.and_eq_true, Bool.or_eq_true, Bool.not_eq_true', decide_eq_true_eq, decide_eq_false_iff_not, Bool.false_eq_true, true_and, and_true]; first | omega | grind))
  ·rw [hR]
   (first | rfl | (congr 1; done) | (congr 1; rw [Bool.eq_iff_iff]; simp only [Bool.and_eq_true, Bool.or_eq_true, Bool.not_eq_true', decide_eq_true_eq, decide_eq_false_iff_not, Bool.false_eq_true, true_and, and_true]; first | omega | grind))
 ·rw [if_neg h1, if_neg h2, if_neg h3, if_neg h4, if_neg h5, if_neg h6] at hR
  rw [hR]
theorem kind_spec (o : IOp) : Spec Tryz.prog G 125 [.agg o.cells] h (Is (.bool (kindN o)) h) := by
 refine Spec.is C125ok rfl ?_
 simp only [push_cast, simprocAttr]
 unfold kindN
 refine ⟨fun h1 => ?_, fun h1 => ⟨fun h2 => ?_, fun h2 => ⟨fun h3 => (Reckons_spec _).to ?_, fun h3 => ⟨fun h4 => (Loads_spec _).to ?_, fun h4 => ⟨fun h5 => (Stores_spec _).to ?_, fun h5 => ⟨fun h6 => ?_, fun h6 => ?_⟩⟩⟩⟩⟩⟩
 ·rw [if_pos h1]
 ·rw [if_neg h1, if_pos h2]
 ·simp only [push_cast, simprocAttr]
  rw [if_neg h1, if_neg h2, if_pos h3]
 ·simp only [push_cast, simprocAttr]
  rw [if_neg h1, if_neg h2, if_neg h3, if_pos h4]
 ·simp only [push_cast, simprocAttr]
  rw [if_neg h1, if_neg h2, if_neg h3, if_neg h4, if_pos h5]
 ·rw [if_neg h1, if_neg h2, if_neg h3, if_neg h4, if_neg h5, if_pos h6]
 ·rw [if_neg h1, if_neg h2, if_neg h3, if_neg h4, if_neg h5, if_neg h6]
def namedN (o : IOp) : Bool := if o.code = 5 then true else if o.code = 6 then decide (o.y = 0) else if o.code = 3 then decide (o.x = 0) && decide (o.y = 0) else if o.code = 4 then decide (o.b = 0) && decide (o.y = 0) else decide (o.a = 0) && decide (o.b = 0) && decide (o.x = 0) && decide (o.y = 0)
@[push_cast] theorem op_eqs (a b c d e f a' b' c' d' e' f' : Int) (neg : Bool) : aeq neg [.i, .i, .i, .i, .i, .i] (.agg [.int .i64 a, .int .i64 b, .int .i64 c, .int .u32 d, .int .i64 e, .int .i64 f]) (.agg [.int .i64 a', .int .i64 b', .int .i64 c', .int .u32 d', .int .i64 e', .int .i64 f']) = some (.bool ((a == a' && (b == b' && (c == c' && (d == d' && (e == e' && f == f'))))) != neg)) := by
 simp [aeq, cellsEq]
theorem op_eqd (x y : IOp) (neg : Bool) : aeq neg [.i, .i, .i, .i, .i, .i] (.agg x.cells) (.agg y.cells) = some (.bool (decide (x = y) != neg)) := by
 unfold IOp.cells
 rw [op_eqs]
 congr 3
 rw [Bool.eq_iff_iff]
 obtain ⟨a, b, c, d, e, f⟩ := x
 obtain ⟨a', b', c', d', e', f'⟩ := y
 simp [← BitVec.toNat_inj]
 intros; omega
theorem named_spec (o : IOp) : Spec Tryz.prog G 126 [.agg o.cells] h (Is (.bool (namedN o)) h) := by
 refine Spec.is C126ok rfl ?_
 simp only [push_cast, simprocAttr]
 intro c hc
 have hs : ∀ X, Sub h (upd h c X) := fun X => (Sub.refl h).alloc hc
 unfold IOp.cells
 simp only [push_cast, simprocAttr]
 unfold namedN
 refine ⟨fun h1 => ⟨?_, hs _⟩, fun h1 => ⟨fun h2 => ⟨?_, hs _⟩, fun h2 => ⟨fun h3 => ⟨?_, hs _⟩, fun h3 => ⟨fun h4 => ⟨?_, hs _⟩, fun h4 => ⟨?_, hs _⟩⟩⟩⟩⟩
 ·rw [if_pos h1]
 ·rw [if_neg h1, if_pos h2]
  congr 1; rw [Bool.eq_iff_iff]; simp <;> omega
 ·rw [if_neg h1, if_neg h2, if_pos h3]
  congr 1; rw [Bool.eq_iff_iff]; simp <;> omega
 ·rw [if_neg h1, if_neg h2, if_neg h3, if_pos h4]
  congr 1; rw [Bool.eq_iff_iff]; simp <;> omega
 ·rw [if_neg h1, if_neg h2, if_neg h3, if_neg h4]
  congr 1; rw [Bool.eq_iff_iff]; simp <;> omega
def usesN (o : IOp) : List Int := if o.code = 3 ∨ o.code = 5 ∨ o.code = 6 then [o.a, o.b] else if o.code = 4 then [o.a] else []
abbrev ints (l : List Int) : AV := .ro (l.map (.int .i64)) l.length
theorem Uses_spec (o : IOp) : Spec Tryz.prog G 127 [.agg o.cells] h (Is (ints (usesN o)) h) := by
 refine Spec.weak (Q := fun r h' => Sub h h' ∧ ((usesN o = [] ∧ r = .nils) ∨ r = ints (usesN o))) ?_ ?_
 ·refine Spec.walk C127ok rfl ?_
  simp only [push_cast, simprocAttr]
  unfold usesN
  by_cases h3 : o.code = 3
  ·simp [h3]
  ·by_cases h5 : o.code = 5
   ·simp [h5]
   ·by_cases h6 : o.code = 6
    ·simp [h6]
    ·by_cases h4 : o.code = 4
     ·simp [h4]
     ·simp [h3, h4, h5, h6]
 ·rintro r h' ⟨hs, ⟨he, rfl⟩ | rfl⟩
  ·rw [he]
   exact ⟨_, _, ⟨rfl, rfl⟩, le_sub hs Le.nils⟩
  ·exact ⟨_, _, ⟨rfl, rfl⟩, le_sub hs (Le.refl _ _)⟩
def exN (b : IBk) (o : IOp) (k : Nat) : Bool := if o.code = 5 then b.exit o.x k && b.exit o.y k else if o.code = 4 ∨ o.code = 6 then b.exit o.x k else true
theorem opR_parts (b : IBk) (k : Nat) {o : IOp} (ho : b.ops.getD k IOp.zero = o) : b.opR k = (kindN o && namedN o && allN (usesN o).length (fun i => b.val ((usesN o).getD i 0) k) && exN b o k) := by
 rw [opR_eq b k ho]
 unfold kindN namedN usesN exN
 by_cases h1 : o.code = 1
 ·simp [h1, allN]; grind
 ·by_cases h2 : o.code = 2
  ·simp [h2, allN]; grind
  ·by_cases h3 : o.code = 3
   ·simp [h3, allN, List.range_succ]; grind
   ·by_cases h4 : o.code = 4
    ·simp [h4, allN, List.range_succ]; grind
    ·by_cases h5 : o.code = 5
     ·simp [h5, allN, List.range_succ]; grind
     ·by_cases h6 : o.code = 6
      ·simp [h6, allN, List.range_succ]; grind
      ·simp [h1, h2, h3, h4, h5, h6]
@[push_cast] theorem ints_get (l : List Int) (i : Nat) : (l.map (AV.int .i64))[i]? = if i < l.length then some (AV.int .i64 (l.getD i 0)) else none := by
 simp only [List.getElem?_map]
 split
 ·rename_i h; simp [h]
 ·rename_i h; simp [Nat.not_lt.1 h]
theorem usesN_len (o : IOp) : (usesN o).length ≤ 2 := by
 unfold usesN
 split
 ·simp
 ·split <;> simp
theorem op_spec (b : IBk) (k : Nat) (hk : k < b.ops.length) (hm : ∀ e ∈ b.exits, e.map.length ≤ 140737488355328) : Spec Tryz.prog G 99 [.agg [bkP b], .int .i64 k] h (Is (.bool (b.opR k)) h) := by
 refine Spec.is C99ok rfl ?_
 simp only [push_cast, simprocAttr]
 refine ⟨hk, hk, fun c hc => ?_⟩
 rw [era_none hc]
 generalize ho : b.ops.getD k IOp.zero = o
 have hR := opR_parts b k ho
 generalize b.opR k = R at hR ⊢
 refine (kind_spec o).to ?_
 simp only [push_cast, simprocAttr]
 refine ⟨fun hkd => (named_spec o).to ?_, fun hkd => ?_⟩
 ·simp only [push_cast, simprocAttr]
  rw [hkd, Bool.true_and] at hR
  refine ⟨fun hnm => ?_, fun hnm => (Uses_spec o).to ?_⟩
  ·rw [hR, hnm]; rfl
  ·rw [hnm, Bool.true_and] at hR
   have hul := usesN_len o
   simp only [push_cast, simprocAttr]
   refine lpc.rel [1, 2, 5, 25, 26, 27] (fun m ρ h' => ∃ j : Nat, m = (usesN o).length - j ∧ j ≤ (usesN o).length ∧ h = h' ∧ (∀ i, i < j → b.val ((usesN o).getD i 0) k = true) ∧
    ρ = [(1, .int .i64 (k : Int)), (2, .cp [bkP b] 0), (5, .cp o.cells 0), (25, ints (usesN o)), (26, .int .i64 ((usesN o).length : Int)), (27, .int .i64 (j : Int))]) ⟨_, 0, rfl, by omega, rfl, by intro i hi; omega, rfl⟩ ?_
   rintro m _ _ ⟨j, rfl, hj, rfl, hall, rfl⟩
   simp only [push_cast, simprocAttr]
   refine ⟨fun hj2 => ⟨hj2, hj2, (value_spec b _ _).to ?_⟩, fun hj2 => ?_⟩
   ·simp (disch := omega) only [push_cast, simprocAttr, wrap_i64, toNat_ofInt64, Nat.min_eq_left, Int.toNat_of_nonneg]
    refine ⟨fun hv => ?_, fun hv => ?_⟩
    ·rw [hR, allN_false j hj2 hv]; rfl
    ·refine ⟨_, _, by omega, .refl _, j + 1, rfl, by omega, rfl, fun i hi => ?_, rfl⟩
     by_cases hik : i = j
     ·subst hik; exact hv
     ·exact hall i (by omega)
   ·obtain rfl : j = (usesN o).length := by omega
    rw [allN_true hall, Bool.true_and] at hR
    refine ⟨fun h5 => (exit_spec b _ _ hm).to ?_, fun h5 => ⟨fun h4 => ?_, fun h4 => ?_⟩⟩
    ·simp only [push_cast, simprocAttr]
     rw [exN, if_pos h5] at hR
     refine ⟨fun g => (exit_spec b _ _ hm).to ?_, fun g => ?_⟩
     ·simp only [push_cast, simprocAttr]
      rw [hR, g]; rfl
     ·rw [hR, g]; rfl
    ·refine ⟨fun _ => (exit_spec b _ _ hm).to ?_, fun h => absurd h4 h⟩
     simp only [push_cast, simprocAttr]
     rw [hR, exN, if_neg h5, if_pos (.inl h4)]
    ·refine ⟨fun h6 => (exit_spec b _ _ hm).to ?_, fun h6 => ?_⟩
     ·simp only [push_cast, simprocAttr]
      rw [hR, exN, if_neg h5, if_pos (.inr h6)]
     ·rw [hR, exN, if_neg h5, if_neg (by omega)]
 ·rw [hR, hkd]; rfl
end Go.Ab
end
section
namespace Go.Ab
open Go.Proofs
variable {G : Glo} {h : Heap}
theorem u32_rem (x : BitVec 32) : ((x.toNat : Int).tmod 4 = 0) ↔ x.toNat % 4 = 0 := by
 show ((x.toNat % 4 : Nat) : Int) = 0 ↔ _
 omega
def headN (b : IBk) (n : Nat) : Bool := b.exit n b.ops.length && decide (0 ≤ (b.ex n).done) && decide ((b.ex n).done ≤ b.pcs.length) && decide ((b.ex n).pc.toNat % 4 = 0) && decide (1 ≤ (b.ex n).why) && decide ((b.ex n).why ≤ 4)
def regN (e : IEx) (i : Nat) : Bool := decide (1 ≤ (e.vl i).reg) && decide ((e.vl i).reg ≤ 31) && (decide (i = 0) || decide ((e.vl (i - 1)).reg < (e.vl i).reg))
theorem leaves_eq (b : IBk) (n : Nat) : b.leaves n = (headN b n && allN (b.ex n).map.length (regN (b.ex n))) := rfl
theorem regN_iff (e : IEx) (i : Nat) : regN e i = true ↔ 1 ≤ (e.vl i).reg ∧ (e.vl i).reg ≤ 31 ∧ (i = 0 ∨ (e.vl (i - 1)).reg < (e.vl i).reg) := by
 simp [regN, and_assoc]
theorem regN_no {e : IEx} {i : Nat} (h : ¬ (1 ≤ (e.vl i).reg ∧ (e.vl i).reg ≤ 31 ∧ (i = 0 ∨ (e.vl (i - 1)).reg < (e.vl i).reg))) : regN e i = false := by
 rw [← Bool.not_eq_true, regN_iff]; exact h
theorem regN_step {e : IEx} {k : Nat} (hall : ∀ i, i < k → regN e i = true) (h : 1 ≤ (e.vl k).reg ∧ (e.vl k).reg ≤ 31 ∧ (k = 0 ∨ (e.vl (k - 1)).reg < (e.vl k).reg)) : ∀ i, i < k + 1 → regN e i = true := by
 intro i hi
 by_cases hik : i = k
 ·subst hik; rw [regN_iff]; exact h
 ·exact hall i (by omega)
theorem rleaves_spec (b : IBk) (n : Nat) (hn : n < b.exits.length) (hm : ∀ e ∈ b.exits, e.map.length ≤ 140737488355328) : Spec Tryz.prog G 36 [.agg b.cells, .int .i64 n] h (Is (.bool (b.leaves n)) h) := by
 refine Spec.is C36ok rfl ?_
 simp only [push_cast, simprocAttr]
 refine ⟨hn, hn, fun c hc => ?_⟩
 rw [era_none hc, leaves_eq]
 have hl := getD_map (n := n) hm
 have hH : headN b n = (b.exit n b.ops.length && decide (0 ≤ (b.ex n).done) && decide ((b.ex n).done ≤ b.pcs.length) && decide ((b.ex n).pc.toNat % 4 = 0) && decide (1 ≤ (b.ex n).why) && decide ((b.ex n).why ≤ 4)) := rfl
 generalize hEx : b.ex n = e at hH ⊢
 have hEy : b.exits.getD n IEx.zero = e := hEx
 rw [hEy] at hl ⊢
 refine (rexit_spec b _ _ hm).to ?_
 simp only [push_cast, simprocAttr]
 refine ⟨fun h1 => ?_, fun h1 => ?_⟩
 ·have : headN b n = false := by
   rw [hH]
   have := u32_rem e.pc
   by_cases g : e.pc.toNat % 4 = 0
   ·rw [this] at h1
    grind
   ·grind
  rw [this]; rfl
 ·have : headN b n = true := by
   rw [hH]
   have := u32_rem e.pc
   rw [this] at h1
   grind
  rw [this, Bool.true_and]
  refine lpc.rel [5, 6] (fun m ρ h' => ∃ k : Nat, m = e.map.length - k ∧ k ≤ e.map.length ∧ h = h' ∧ (∀ i, i < k → regN e i = true) ∧ ρ = [(5, .cp e.cells 0), (6, .int .i64 (k : Int))]) ⟨_, 0, rfl, by omega, rfl, by intro i hi; omega, rfl⟩ ?_
  rintro m _ _ ⟨k, rfl, hk, rfl, hall, rfl⟩
  by_cases hk2 : k < e.map.length
  ·have hv : e.vl k = e.map.getD k IVl.zero := rfl
   have hR := regN_no (e := e) (i := k)
   have hS := regN_step hall
   rw [hv] at hR hS
   by_cases p1 : (e.map.getD k IVl.zero).reg < 1
   ·simp only [push_cast, simprocAttr, hk2, p1]
    rw [allN_false k hk2 (hR (by omega))]
   ·by_cases p2 : (e.map.getD k IVl.zero).reg > 31
    ·simp only [push_cast, simprocAttr, hk2, p1, p2]
     rw [allN_false k hk2 (hR (by omega))]
    ·by_cases p3 : k = 0
     ·have q3 : ¬ (k : Int) > 0 := by omega
      have ew2 : IntKind.i64.wrap ((k : Int) + 1) = (k : Int) + 1 := wrap_i64 (by omega) (by omega)
      simp only [push_cast, simprocAttr, hk2, p1, p2, q3, ew2]
      exact ⟨_, _, by omega, .refl _, k + 1, rfl, by omega, rfl, hS (by omega), rfl⟩
     ·obtain ⟨j, hj⟩ : ∃ j, k = j + 1 := ⟨k - 1, by omega⟩
      have hw : e.vl (k - 1) = e.map.getD j IVl.zero := by rw [hj]; rfl
      have hj2 : j < e.map.length := by omega
      rw [hw] at hR hS
      have q3 : (k : Int) > 0 := by omega
      have ew : IntKind.i64.wrap ((k : Int) - 1) = (j : Int) := by rw [wrap_i64 (by omega) (by omega)]; omega
      have ew2 : IntKind.i64.wrap ((k : Int) + 1) = (k : Int) + 1 := wrap_i64 (by omega) (by omega)
      by_cases p4 : (e.map.getD k IVl.zero).reg ≤ (e.map.getD j IVl.zero).reg
      ·simp only [push_cast, simprocAttr, hk2, p1, p2, p4, q3, ew, ew2, hj2]
       rw [allN_false k hk2 (hR (by omega))]
      ·simp only [push_cast, simprocAttr, hk2, p1, p2, p4, q3, ew, ew2, hj2]
       exact ⟨_, _, by omega, .refl _, k + 1, rfl, by omega, rfl, hS (by omega), rfl⟩
  ·obtain rfl : k = e.map.length := by omega
   simp only [push_cast, simprocAttr, hk2]
   rw [allN_true hall]
theorem leaves_spec (b : IBk) (n : Nat) (hn : n < b.exits.length) (hm : ∀ e ∈ b.exits, e.map.length ≤ 140737488355328) : Spec Tryz.prog G 100 [.agg [bkP b], .int .i64 n] h (Is (.bool (b.leaves n)) h) := by
 refine Spec.is C100ok rfl ?_
 simp only [push_cast, simprocAttr]
 refine ⟨hn, hn, fun c hc => ?_⟩
 rw [era_none hc, leaves_eq]
 have hl := getD_map (n := n) hm
 have hH : headN b n = (b.exit n b.ops.length && decide (0 ≤ (b.ex n).done) && decide ((b.ex n).done ≤ b.pcs.length) && decide ((b.ex n).pc.toNat % 4 = 0) && decide (1 ≤ (b.ex n).why) && decide ((b.ex n).why ≤ 4)) := rfl
 generalize hEx : b.ex n = e at hH ⊢
 have hEy : b.exits.getD n IEx.zero = e := hEx
 rw [hEy] at hl ⊢
 refine (exit_spec b _ _ hm).to ?_
 cases hx : b.exit n b.ops.length with
 | false =>
  simp only [push_cast, simprocAttr]
  rw [hH, hx]; rfl
 | true =>
  by_cases g1 : e.done < 0
  ·simp only [push_cast, simprocAttr, g1]
   rw [hH, hx]
   (first | rfl | (congr 1; done) | (congr 1; rw [Bool.eq_iff_iff]; simp only [Bool.and_eq_true, Bool.or_eq_true, Bool.not_eq_true', decide_eq_true_eq, decide_eq_false_iff_not, Bool.false_eq_true, true_and, and_true]; first | omega | grind))
  ·by_cases g2 : e.done > b.pcs.length
   ·simp only [push_cast, simprocAttr, g1, g2]
    rw [hH, hx]
    (first | rfl | (congr 1; done) | (congr 1; rw [Bool.eq_iff_iff]; simp only [Bool.and_eq_true, Bool.or_eq_true, Bool.not_eq_true', decide_eq_true_eq, decide_eq_false_iff_not, Bool.false_eq_true, true_and, and_true]; first | omega | grind))
   ·simp only [push_cast, simprocAttr, g1, g2]
    cases g3 : ((e.pc.toNat : Int).tmod 4 != 0) with
    | true =>
     simp only [push_cast, simprocAttr]
     rw [hH, hx]
     have := u32_rem e.pc
     rw [bne_iff_ne, ne_eq, this] at g3
     (first | rfl | (congr 1; done) | (congr 1; rw [Bool.eq_iff_iff]; simp only [Bool.and_eq_true, Bool.or_eq_true, Bool.not_eq_true', decide_eq_true_eq, decide_eq_false_iff_not, Bool.false_eq_true, true_and, and_true]; first | omega | grind))
    | false =>
     rw [bne_eq_false_iff_eq, u32_rem] at g3
     by_cases g4 : e.why < 1
     ·simp only [push_cast, simprocAttr, g4]
      rw [hH, hx]
      (first | rfl | (congr 1; done) | (congr 1; rw [Bool.eq_iff_iff]; simp only [Bool.and_eq_true, Bool.or_eq_true, Bool.not_eq_true', decide_eq_true_eq, decide_eq_false_iff_not, Bool.false_eq_true, true_and, and_true]; first | omega | grind))
     ·by_cases g5 : e.why > 4
      ·simp only [push_cast, simprocAttr, g4, g5]
       rw [hH, hx]
       (first | rfl | (congr 1; done) | (congr 1; rw [Bool.eq_iff_iff]; simp only [Bool.and_eq_true, Bool.or_eq_true, Bool.not_eq_true', decide_eq_true_eq, decide_eq_false_iff_not, Bool.false_eq_true, true_and, and_true]; first | omega | grind))
      ·have hh : headN b n = true := by rw [hH, hx]; simp; omega
       rw [hh, Bool.true_and]
       simp only [push_cast, simprocAttr, g4, g5]
       refine lpc.rel [6, 60, 61, 62] (fun m ρ h' => ∃ k : Nat, m = e.map.length - k ∧ k ≤ e.map.length ∧ h = h' ∧ (∀ i, i < k → regN e i = true) ∧
        ρ = [(6, .int .i64 (if k = 0 then 0 else (e.vl (k - 1)).reg)), (60, vls e.map), (61, .int .i64 (e.map.length : Int)), (62, .int .i64 (k : Int))]) ⟨_, 0, rfl, by omega, rfl, by intro i hi; omega, rfl⟩ ?_
       rintro m _ _ ⟨k, rfl, hk, rfl, hall, rfl⟩
       simp only [push_cast, simprocAttr]
       refine ⟨fun hk2 => ⟨hk2, hk2, fun d hd => ?_⟩, fun hk2 => ?_⟩
       ·rw [era_none hd]
        have hv : e.vl k = e.map.getD k IVl.zero := rfl
        have hR := regN_no (e := e) (i := k)
        have hS := regN_step hall
        rw [hv] at hR hS
        have hlast : 0 ≤ (if k = 0 then 0 else (e.vl (k - 1)).reg) ∧ (k = 0 → (if k = 0 then 0 else (e.vl (k - 1)).reg) = 0) ∧ (k ≠ 0 → (if k = 0 then 0 else (e.vl (k - 1)).reg) = (e.vl (k - 1)).reg) := by
         by_cases hk0 : k = 0
         ·simp [hk0]
         ·have := (regN_iff e (k - 1)).1 (hall (k - 1) (by omega))
          simp [hk0]
          omega
        generalize (if k = 0 then 0 else (e.vl (k - 1)).reg) = last at hlast ⊢
        refine ⟨fun hb => ⟨?_, .refl _⟩, fun hb => ?_⟩
        ·rw [allN_false k hk2 (hR (by
          rintro ⟨q1, q2, q3⟩
          by_cases hk0 : k = 0
          ·have := hlast.2.1 hk0; omega
          ·have := hlast.2.2 hk0; omega))]
        ·simp (disch := omega) only [push_cast, simprocAttr, wrap_i64, toNat_ofInt64, Nat.min_eq_left, Int.toNat_of_nonneg]
         refine ⟨_, _, by omega, .refl _, k + 1, rfl, by omega, rfl, hS ⟨by omega, by omega, ?_⟩, rfl⟩
         by_cases hk0 : k = 0
         ·exact .inl hk0
         ·have := hlast.2.2 hk0; omega
       ·obtain rfl : k = e.map.length := by omega
        rw [allN_true hall]
end Go.Ab
end
section
namespace Go.Ab
open Go.Proofs
variable {G : Glo} {h : Heap}
structure IBk.wf (b : IBk) : Prop where
 hp : b.pcs.length ≤ 140737488355328
 ho : b.ops.length ≤ 140737488355328
 he : b.exits.length ≤ 140737488355328
 hm : ∀ e ∈ b.exits, e.map.length ≤ 140737488355328
 hq : b.pcs.length ≤ 1000000000000
 hs : b.ops.length ≤ 1000000000000 ∧ b.exits.length ≤ 1000000000000 ∧ ∀ e ∈ b.exits, e.map.length ≤ 1000000000000
def IBk.pcsR (b : IBk) : Bool := allN b.pcs.length (pcR b.pcs)
theorem odd_spec (x : BitVec 32) : Spec Tryz.prog G 101 [.int .u32 x.toNat] h (Is (.bool (! decide (x.toNat % 4 = 0))) h) := by
 refine Spec.is C101ok rfl ?_
 simp only [push_cast, simprocAttr]
 congr 1
 rw [Bool.eq_iff_iff, bne_iff_ne, ne_eq, u32_rem]
 simp
theorem indexP_spec (l : List (BitVec 32)) (hl : l.length ≤ 140737488355328) : Spec Tryz.prog G 129 [.ro (wds l) l.length, .fn 101 [] []] h
  (fun r h' => h = h' ∧ ∃ j : Int, r = .int .i64 j ∧ (decide (j ≥ 0) = ! allN l.length (pcR l))) := by
 refine Spec.drop (Spec.mono (Q := fun r h' => Sub h h' ∧ ∃ j : Int, r = .int .i64 j ∧ (decide (j ≥ 0) = ! allN l.length (pcR l))) ?_ fun r h' hq => ⟨h, hq.1, rfl, hq.2⟩)
 refine Spec.walk C129ok rfl ?_
 simp only [push_cast, simprocAttr]
 refine lpc.rel [0, 1, 7, 8] (fun m ρ h' => ∃ k : Nat, m = l.length - k ∧ k ≤ l.length ∧ h = h' ∧ (∀ i, i < k → pcR l i = true) ∧
  ρ = [(0, .ro (wds l) l.length), (1, .fn 101 [] []), (7, .int .i64 (l.length : Int)), (8, .int .i64 (k : Int))]) ⟨_, 0, rfl, by omega, rfl, by intro i hi; omega, rfl⟩ ?_
 rintro m _ _ ⟨k, rfl, hk, rfl, hall, rfl⟩
 simp only [push_cast, simprocAttr]
 refine ⟨fun hk2 => ⟨hk2, hk2, ⟨_, C101ok.hf, rfl, rfl⟩, (odd_spec _).to ?_⟩, fun hk2 => ?_⟩
 ·simp (disch := omega) only [push_cast, simprocAttr, wrap_i64, toNat_ofInt64, Nat.min_eq_left, Int.toNat_of_nonneg]
  refine ⟨fun hv => ?_, fun hv => ?_⟩
  ·rw [allN_false k hk2 (by rw [pcR]; simpa using hv)]
   exact ⟨(k : Int), rfl, by simp⟩
  ·refine ⟨_, _, by omega, .refl _, k + 1, rfl, by omega, rfl, fun i hi => ?_, rfl⟩
   by_cases hik : i = k
   ·subst hik; rw [pcR]; simpa using hv
   ·exact hall i (by omega)
 ·obtain rfl : k = l.length := by omega
  rw [allN_true hall]
  exact ⟨-1, rfl, rfl⟩
theorem containsP_spec (l : List (BitVec 32)) (hl : l.length ≤ 140737488355328) : Spec Tryz.prog G 102 [.ro (wds l) l.length, .fn 101 [] []] h (Is (.bool (! allN l.length (pcR l))) h) := by
 refine Spec.is C102ok rfl ?_
 simp only [push_cast, simprocAttr]
 refine (indexP_spec l hl).mono ?_
 rintro _ _ ⟨rfl, j, rfl, hj⟩
 simp only [push_cast, simprocAttr]
 rw [hj]
theorem right_spec (b : IBk) (hw : b.wf) : Spec Tryz.prog G 60 [.agg [bkP b]] h (Is (.bool b.right) h) := by
 have hp := hw.hp
 have ho := hw.ho
 have he := hw.he
 have hR : b.right = (allN b.ops.length b.opR && allN b.exits.length b.leaves && b.pcsR && decide (0 < b.pcs.length) && b.exit b.last b.ops.length) := rfl
 generalize b.right = R at hR ⊢
 refine Spec.is C60ok rfl ?_
 simp only [push_cast, simprocAttr]
 refine lpc.rel [1, 11, 12] (fun m ρ h' => ∃ k : Nat, m = b.ops.length - k ∧ k ≤ b.ops.length ∧ h = h' ∧ (∀ i, i < k → b.opR i = true) ∧
  ρ = [(1, .cp [bkP b] 0), (11, .int .i64 (b.ops.length : Int)), (12, .int .i64 (k : Int))]) ⟨_, 0, rfl, by omega, rfl, by intro i hi; omega, rfl⟩ ?_
 rintro m _ _ ⟨k, rfl, hk, rfl, hall, rfl⟩
 simp only [push_cast, simprocAttr]
 refine ⟨fun hk2 => (op_spec b k hk2 hw.hm).to ?_, fun hk2 => ?_⟩
 ·simp (disch := omega) only [push_cast, simprocAttr, wrap_i64, toNat_ofInt64, Nat.min_eq_left, Int.toNat_of_nonneg]
  refine ⟨fun hv => ?_, fun hv => ?_⟩
  ·rw [hR, allN_false k hk2 hv]; rfl
  ·refine ⟨_, _, by omega, .refl _, k + 1, rfl, by omega, rfl, fun i hi => ?_, rfl⟩
   by_cases hik : i = k
   ·subst hik; exact hv
   ·exact hall i (by omega)
 ·obtain rfl : k = b.ops.length := by omega
  rw [allN_true hall, Bool.true_and] at hR
  refine lpc.rel [1, 25, 26] (fun m ρ h' => ∃ k : Nat, m = b.exits.length - k ∧ k ≤ b.exits.length ∧ h = h' ∧ (∀ i, i < k → b.leaves i = true) ∧
   ρ = [(1, .cp [bkP b] 0), (25, .int .i64 (b.exits.length : Int)), (26, .int .i64 (k : Int))]) ⟨_, 0, rfl, by omega, rfl, by intro i hi; omega, rfl⟩ ?_
  rintro m _ _ ⟨k, rfl, hk, rfl, hall, rfl⟩
  simp only [push_cast, simprocAttr]
  refine ⟨fun hk2 => (leaves_spec b k hk2 hw.hm).to ?_, fun hk2 => ?_⟩
  ·simp (disch := omega) only [push_cast, simprocAttr, wrap_i64, toNat_ofInt64, Nat.min_eq_left, Int.toNat_of_nonneg]
   refine ⟨fun hv => ?_, fun hv => ?_⟩
   ·rw [hR, allN_false k hk2 hv]; rfl
   ·refine ⟨_, _, by omega, .refl _, k + 1, rfl, by omega, rfl, fun i hi => ?_, rfl⟩
    by_cases hik : i = k
    ·subst hik; exact hv
    ·exact hall i (by omega)
  ·obtain rfl : k = b.exits.length := by omega
   rw [allN_true hall, Bool.true_and] at hR
   by_cases q : (b.pcs.length : Int) > 0
   ·simp only [push_cast, simprocAttr, q]
    have q2 : decide (0 < b.pcs.length) = true := decide_eq_true (by omega)
    rw [q2, Bool.and_true] at hR
    refine (containsP_spec b.pcs hp).to ?_
    cases hP : allN b.pcs.length (pcR b.pcs) with
    | true =>
     simp only [push_cast, simprocAttr, q]
     refine (exit_spec b _ _ hw.hm).to ?_
     simp only [push_cast, simprocAttr, q]
     rw [hR, IBk.pcsR, hP]; rfl
    | false =>
     simp only [push_cast, simprocAttr, q]
     rw [hR, IBk.pcsR, hP]; rfl
   ·simp only [push_cast, simprocAttr, q]
    rw [hR, decide_eq_false (by omega)]; simp
end Go.Ab
end
section
namespace Go.Ab
open Go.Proofs
variable {G : Glo} {h : Heap}
theorem check_long {b : IBk} (h : b.pcs.length > 32 ∨ b.ops.length > 512 ∨ b.exits.length > 128) : b.check = 3 := by
 have : b.long = true := by simp only [IBk.long, Bool.or_eq_true, decide_eq_true_eq]; omega
 rw [IBk.check, if_pos this]
theorem check_short {b : IBk} (h1 : ¬ b.pcs.length > 32) (h2 : ¬ b.ops.length > 512) (h3 : ¬ b.exits.length > 128) : b.check = if b.right then 0 else 1 := by
 have : ¬ b.long = true := by simp only [IBk.long, Bool.or_eq_true, decide_eq_true_eq]; omega
 rw [IBk.check, if_neg this]
theorem Check_spec (b : IBk) (hw : b.wf) : Spec Tryz.prog G 30 [bkP b] h (Is (.int .i64 b.check) h) := by
 refine Spec.is C30ok rfl ?_
 by_cases g1 : (b.pcs.length : Int) > 32
 ·simp only [push_cast, simprocAttr, g1]
  rw [check_long (by omega)]
 ·by_cases g2 : (b.ops.length : Int) > 512
  ·simp only [push_cast, simprocAttr, g1, g2]
   rw [check_long (by omega)]
  ·by_cases g3 : (b.exits.length : Int) > 128
   ·simp only [push_cast, simprocAttr, g1, g2, g3]
    rw [check_long (by omega)]
   ·simp only [push_cast, simprocAttr, g1, g2, g3]
    refine (right_spec b hw).to ?_
    rw [check_short (by omega) (by omega) (by omega)]
    cases b.right with
    | true => simp only [push_cast, simprocAttr]
    | false => simp only [push_cast, simprocAttr]
theorem rCheck_spec (b : IBk) (hw : b.wf) : Spec Tryz.prog G 13 [.agg b.cells] h (Is (.int .i64 b.check) h) := by
 have hp := hw.hp
 have ho := hw.ho
 have he := hw.he
 refine Spec.is C13ok rfl ?_
 simp only [push_cast, simprocAttr]
 refine ⟨fun h1 => ?_, fun h1 => ?_⟩
 ·rw [check_long (by omega)]
 ·rw [check_short (by omega) (by omega) (by omega)]
  have hR : b.right = (allN b.ops.length b.opR && allN b.exits.length b.leaves && allN b.pcs.length (pcR b.pcs) && decide (0 < b.pcs.length) && b.exit b.last b.ops.length) := rfl
  generalize b.right = R at hR ⊢
  refine lpc.rel [1, 3] (fun m ρ h' => ∃ k : Nat, m = b.ops.length - k ∧ k ≤ b.ops.length ∧ h = h' ∧ (∀ i, i < k → b.opR i = true) ∧
   ρ = [(1, .cp b.cells 0), (3, .int .i64 (k : Int))]) ⟨_, 0, rfl, by omega, rfl, by intro i hi; omega, rfl⟩ ?_
  rintro m _ _ ⟨k, rfl, hk, rfl, hall, rfl⟩
  simp only [push_cast, simprocAttr]
  refine ⟨fun hk2 => (rop_spec b k hk2 hw.hm).to ?_, fun hk2 => ?_⟩
  ·simp (disch := omega) only [push_cast, simprocAttr, wrap_i64, toNat_ofInt64, Nat.min_eq_left, Int.toNat_of_nonneg]
   refine ⟨fun hv => ?_, fun hv => ?_⟩
   ·rw [hR, allN_false k hk2 hv]; rfl
   ·refine ⟨_, _, by omega, .refl _, k + 1, rfl, by omega, rfl, fun i hi => ?_, rfl⟩
    by_cases hik : i = k
    ·subst hik; exact hv
    ·exact hall i (by omega)
  ·obtain rfl : k = b.ops.length := by omega
   rw [allN_true hall, Bool.true_and] at hR
   refine lpc.rel [1, 4] (fun m ρ h' => ∃ k : Nat, m = b.exits.length - k ∧ k ≤ b.exits.length ∧ h = h' ∧ (∀ i, i < k → b.leaves i = true) ∧
    ρ = [(1, .cp b.cells 0), (4, .int .i64 (k : Int))]) ⟨_, 0, rfl, by omega, rfl, by intro i hi; omega, rfl⟩ ?_
   rintro m _ _ ⟨k, rfl, hk, rfl, hall, rfl⟩
   simp only [push_cast, simprocAttr]
   refine ⟨fun hk2 => (rleaves_spec b k hk2 hw.hm).to ?_, fun hk2 => ?_⟩
   ·simp (disch := omega) only [push_cast, simprocAttr, wrap_i64, toNat_ofInt64, Nat.min_eq_left, Int.toNat_of_nonneg]
    refine ⟨fun hv => ?_, fun hv => ?_⟩
    ·rw [hR, allN_false k hk2 hv]; rfl
    ·refine ⟨_, _, by omega, .refl _, k + 1, rfl, by omega, rfl, fun i hi => ?_, rfl⟩
     by_cases hik : i = k
     ·subst hik; exact hv
     ·exact hall i (by omega)
   ·obtain rfl : k = b.exits.length := by omega
    rw [allN_true hall, Bool.true_and] at hR
    refine lpc.rel [1, 5] (fun m ρ h' => ∃ k : Nat, m = b.pcs.length - k ∧ k ≤ b.pcs.length ∧ h = h' ∧ (∀ i, i < k → pcR b.pcs i = true) ∧
     ρ = [(1, .cp b.cells 0), (5, .int .i64 (k : Int))]) ⟨_, 0, rfl, by omega, rfl, by intro i hi; omega, rfl⟩ ?_
    rintro m _ _ ⟨k, rfl, hk, rfl, hall, rfl⟩
    by_cases hk2 : k < b.pcs.length
    ·cases hv : (((b.pcs.getD k 0#32).toNat : Int).tmod 4 != 0) with
     | true =>
      have hv2 : pcR b.pcs k = false := by
       rw [bne_iff_ne, ne_eq, u32_rem] at hv
       exact decide_eq_false hv
      rw [hR, allN_false k hk2 hv2]
      simp (disch := omega) only [push_cast, simprocAttr, wrap_i64, toNat_ofInt64, Nat.min_eq_left, Int.toNat_of_nonneg, hk2, hv]
     | false =>
      have hv2 : pcR b.pcs k = true := by
       rw [bne_eq_false_iff_eq, u32_rem] at hv
       exact decide_eq_true hv
      simp (disch := omega) only [push_cast, simprocAttr, wrap_i64, toNat_ofInt64, Nat.min_eq_left, Int.toNat_of_nonneg, hk2, hv]
      refine ⟨_, _, by omega, .refl _, k + 1, rfl, by omega, rfl, fun i hi => ?_, rfl⟩
      by_cases hik : i = k
      ·subst hik; exact hv2
      ·exact hall i (by omega)
    ·obtain rfl : k = b.pcs.length := by omega
     rw [allN_true hall, Bool.true_and] at hR
     by_cases h0 : b.pcs.length = 0
     ·rw [decide_eq_false (by omega), Bool.false_and] at hR
      simp only [push_cast, simprocAttr, hk2, h0]
      rw [hR]; rfl
     ·rw [decide_eq_true (by omega), Bool.true_and] at hR
      simp only [push_cast, simprocAttr, hk2, h0]
      refine ⟨fun _ => (rexit_spec b _ _ hw.hm).to ?_, fun h => by omega⟩
      cases hx : b.exit b.last b.ops.length with
      | true =>
       simp only [push_cast, simprocAttr]
       rw [hR, hx]; rfl
      | false =>
       simp only [push_cast, simprocAttr]
       rw [hR, hx]; rfl
end Go.Ab
end
section
namespace Go.Ab
open Go.Proofs
variable {G : Glo} {h : Heap}
theorem flat_snoc {α : Type} (f : α → List AV) (l : List α) (d : α) (k : Nat) (hk : k < l.length) : (l.take (k + 1)).flatMap f = (l.take k).flatMap f ++ f (l.getD k d) := by
 rw [List.take_add_one, List.flatMap_append]; simp [hk]
theorem Own_spec (b : IBk) (hw : b.wf) : Spec Tryz.prog G 9 [.agg b.cells] h (Is (bkP b) h) := by
 have hp := hw.hp
 have ho := hw.ho
 have he := hw.he
 obtain ⟨hs1, hs2, hs3⟩ := hw.hs
 refine Spec.weak (Q := fun r h' => ∃ c, h c = none ∧ r = .ptr c 0 ∧ h' = upd h c ⟨b.cells, 0⟩) ?_ ?_
 ·refine Spec.walk C9ok rfl ?_
  simp only [push_cast, simprocAttr]
  intro b3 hb3
  refine lpc.rel [1, 3, 4] (fun m ρ h' => ∃ (k : Nat) (v : AV), m = b.ops.length - k ∧ k ≤ b.ops.length ∧ Own 6 (upd h b3 ⟨[.ro (wds b.pcs) b.pcs.length, v, .nils, .int .i64 b.last], 0⟩) v ((b.ops.take k).flatMap IOp.cells) k h' ∧
   ρ = [(1, .cp b.cells 0), (3, .ptr b3 0), (4, .int .i64 (k : Int))]) ⟨_, 0, .nils, rfl, by omega, .nil, rfl⟩ ?_
  rintro m _ h2 ⟨k, v, rfl, hk, hown, rfl⟩
  have hb2 := hown.get (upd_same _ _ _)
  simp only [push_cast, simprocAttr, hb2]
  refine ⟨fun hk2 => ⟨hk2, hk2, ?_⟩, fun hk2 => ?_⟩
  ·refine Own.app hown (m := 1) (IOp.len _) (by omega) (by omega) fun v3 h3 ho3 => ?_
   have hb3' := ho3.get (upd_same _ _ _)
   have ho4 := Own.upd ho3 (b := b3) (x := ⟨[.ro (wds b.pcs) b.pcs.length, v3, .nils, .int .i64 b.last], 0⟩) (.inr ⟨_, upd_same _ _ _⟩)
   rw [upd_upd] at ho4
   simp (disch := omega) only [push_cast, simprocAttr, wrap_i64, toNat_ofInt64, Nat.min_eq_left, Int.toNat_of_nonneg, hb3', ho3.one]
   exact ⟨_, _, by omega, .refl _, k + 1, v3, rfl, by omega, by rw [flat_snoc _ _ IOp.zero _ hk2]; exact ho4, rfl⟩
  ·obtain rfl : k = b.ops.length := by omega
   rw [List.take_length] at hown
   refine wkQ.cell hown (cs' := [.ro (wds b.pcs) b.pcs.length, Ab.ops b.ops, .nils, .int .i64 b.last]) rfl (fun i => ?_) ?_
   ·match i with
    | 0 => exact .inl rfl
    | 1 => exact .inr ⟨rfl, rfl⟩
    | 2 => exact .inl rfl
    | 3 => exact .inl rfl
    | i + 4 => exact .inl rfl
   clear hb2 hown hk hk2 v h2
   simp only [push_cast, simprocAttr]
   refine lpc.rel [1, 3, 5] (fun m ρ h' => ∃ (k : Nat) (v : AV), m = b.exits.length - k ∧ k ≤ b.exits.length ∧ Own 5 (upd h b3 ⟨[.ro (wds b.pcs) b.pcs.length, Ab.ops b.ops, v, .int .i64 b.last], 0⟩) v ((b.exits.take k).flatMap IEx.cells) k h' ∧
    ρ = [(1, .cp b.cells 0), (3, .ptr b3 0), (5, .int .i64 (k : Int))]) ⟨_, 0, .nils, rfl, by omega, .nil, rfl⟩ ?_
   rintro m _ h2 ⟨k, v, rfl, hk, hown, rfl⟩
   have hb2 := hown.get (upd_same _ _ _)
   simp only [push_cast, simprocAttr]
   refine ⟨fun hk2 => ⟨hk2, hk2, fun b6 hb6 => ?_⟩, fun hk2 => ?_⟩
   ·rw [era_none hb6]
    have hml := getD_map (n := k) hs3
    have hsn := flat_snoc IEx.cells b.exits IEx.zero k hk2
    generalize b.exits.getD k IEx.zero = e at hml hsn ⊢
    intro b7 hb7
    have hb73 : ¬ b3 = b7 := fun e => by rw [← e, hb2] at hb7; cases hb7
    have hb37 : ¬ b7 = b3 := fun e => hb73 e.symm
    have hh7 : h b7 = none := by
     have := hown.sub.none hb7
     rw [upd_ne hb37] at this
     exact this
    refine lpc.rel [1, 3, 5, 6, 7, 8] (fun m ρ h' => ∃ (j : Nat) (v7 : AV), m = e.map.length - j ∧ j ≤ e.map.length ∧ Own 2 (upd h2 b7 ⟨[.int .i64 e.done, .int .u32 (e.pc.toNat : Int), .int .i64 e.to, .int .i64 e.why, v7], 0⟩) v7 ((e.map.take j).flatMap IVl.cells) j h' ∧
     ρ = [(1, .cp b.cells 0), (3, .ptr b3 0), (5, .int .i64 (k : Int)), (6, .cp e.cells 0), (7, .ptr b7 0), (8, .int .i64 (j : Int))]) ⟨_, 0, .nils, rfl, by omega, .nil, rfl⟩ ?_
    rintro m _ g2 ⟨j, v7, rfl, hj, ho7, rfl⟩
    have hg7 := ho7.get (upd_same _ _ _)
    simp only [push_cast, simprocAttr, hg7]
    refine ⟨fun hj2 => ⟨hj2, hj2, ?_⟩, fun hj2 => ?_⟩
    ·refine Own.app ho7 (m := 1) (IVl.len _) (by omega) (by omega) fun v8 h8 ho8 => ?_
     have hg8 := ho8.get (upd_same _ _ _)
     have ho9 := Own.upd ho8 (b := b7) (x := ⟨[.int .i64 e.done, .int .u32 (e.pc.toNat : Int), .int .i64 e.to, .int .i64 e.why, v8], 0⟩) (.inr ⟨_, upd_same _ _ _⟩)
     rw [upd_upd] at ho9
     simp (disch := omega) only [push_cast, simprocAttr, wrap_i64, toNat_ofInt64, Nat.min_eq_left, Int.toNat_of_nonneg, hg8, ho8.one]
     exact ⟨_, _, by omega, .refl _, j + 1, v8, rfl, by omega, by rw [flat_snoc _ _ IVl.zero _ hj2]; exact ho9, rfl⟩
    ·obtain rfl : j = e.map.length := by omega
     rw [List.take_length] at ho7
     refine wkQ.cell ho7 (cs' := e.cells) rfl (fun i => ?_) ?_
     ·match i with
      | 0 => exact .inl rfl
      | 1 => exact .inl rfl
      | 2 => exact .inl rfl
      | 3 => exact .inl rfl
      | 4 => exact .inr ⟨rfl, rfl⟩
      | i + 5 => exact .inl rfl
     clear hg7 ho7 hj hj2 v7 g2
     have ho' := Own.upd hown (b := b7) (x := ⟨e.cells, 0⟩) (.inl hb7)
     have hb2' := ho'.get (b := b3) (by rw [upd_ne hb73]; exact upd_same _ _ _)
     simp only [push_cast, simprocAttr, hb2', upd_at, hb73, hb2]
     refine Own.app ho' (m := 1) (IEx.len _) (by omega) (by omega) fun v4 h4 ho4 => ?_
     have hg3 := ho4.get (b := b3) (by rw [upd_ne hb73]; exact upd_same _ _ _)
     have hg7 := ho4.get (b := b7) (upd_same _ _ _)
     simp (disch := omega) only [push_cast, simprocAttr, wrap_i64, toNat_ofInt64, Nat.min_eq_left, Int.toNat_of_nonneg, hg3, hg7, ho4.one]
     have ho5 := Own.upd ho4 (b := b3) (x := ⟨[.ro (wds b.pcs) b.pcs.length, Ab.ops b.ops, v4, .int .i64 b.last], 0⟩) (.inr ⟨_, by rw [upd_ne hb73]; exact upd_same _ _ _⟩)
     rw [upd_comm hb37, upd_upd] at ho5
     obtain ⟨h6, hs6, ho6⟩ := Own.drop ho5 (by rw [upd_ne hb37]; exact hh7)
     exact ⟨_, h6, by omega, hs6, k + 1, v4, rfl, by omega, by rw [hsn]; exact ho6, rfl⟩
   ·obtain rfl : k = b.exits.length := by omega
    rw [List.take_length] at hown
    refine wkQ.cell hown (cs' := b.cells) rfl (fun i => ?_) ?_
    ·match i with
     | 0 => exact .inl rfl
     | 1 => exact .inl rfl
     | 2 => exact .inr ⟨rfl, rfl⟩
     | 3 => exact .inl rfl
     | i + 4 => exact .inl rfl
    simp only [push_cast, simprocAttr]
    exact ⟨b3, hb3, rfl, rfl⟩
 ·rintro _ _ ⟨c, hc, rfl, rfl⟩
  exact ⟨_, _, ⟨rfl, rfl⟩, Le.box hc⟩
end Go.Ab
end
section
namespace Go.Ab
open Go.Proofs
variable {G : Glo} {h : Heap}
theorem Back_spec (b : IBk) (hw : b.wf) : Spec Tryz.prog G 16 [bkP b] h (Is (.agg b.cells) h) := by
 have hp := hw.hp
 have ho := hw.ho
 have he := hw.he
 obtain ⟨hs1, hs2, hs3⟩ := hw.hs
 refine Spec.is C16ok rfl ?_
 simp only [push_cast, simprocAttr]
 intro b2 hbb b3 hb3
 have hb23 := upd_none hb3
 generalize hX : (⟨[AV.nils, AV.nils, AV.nils, AV.int .i64 0], 0⟩ : Blk) = X at hb3 ⊢
 have hH2 : upd h b2 X b2 = some X := upd_same _ _ _
 have hsub : Sub h (upd h b2 X) := (Sub.refl h).alloc hbb
 generalize upd h b2 X = H at hb3 hH2 hsub ⊢
 refine lpc.rel [0, 2, 3, 4] (fun m ρ h' => ∃ (k : Nat) (v : AV), m = b.ops.length - k ∧ k ≤ b.ops.length ∧ Own 6 (upd H b3 ⟨[.ro (wds b.pcs) b.pcs.length, v, .nils, .int .i64 b.last], 0⟩) v ((b.ops.take k).flatMap IOp.cells) k h' ∧
  ρ = [(0, .cp b.cells 0), (2, .ptr b2 0), (3, .ptr b3 0), (4, .int .i64 (k : Int))]) ⟨_, 0, .nils, rfl, by omega, .nil, rfl⟩ ?_
 rintro m _ h2 ⟨k, v, rfl, hk, hown, rfl⟩
 have hb2 := hown.get (upd_same _ _ _)
 simp only [push_cast, simprocAttr, hb2]
 refine ⟨fun hk2 => ⟨hk2, hk2, ?_⟩, fun hk2 => ?_⟩
 ·refine Own.app hown (m := 1) (IOp.len _) (by omega) (by omega) fun v3 h3 ho3 => ?_
  have hb3' := ho3.get (upd_same _ _ _)
  have ho4 := Own.upd ho3 (b := b3) (x := ⟨[.ro (wds b.pcs) b.pcs.length, v3, .nils, .int .i64 b.last], 0⟩) (.inr ⟨_, upd_same _ _ _⟩)
  rw [upd_upd] at ho4
  simp (disch := omega) only [push_cast, simprocAttr, wrap_i64, toNat_ofInt64, Nat.min_eq_left, Int.toNat_of_nonneg, hb3', ho3.one]
  exact ⟨_, _, by omega, .refl _, k + 1, v3, rfl, by omega, by rw [flat_snoc _ _ IOp.zero _ hk2]; exact ho4, rfl⟩
 ·obtain rfl : k = b.ops.length := by omega
  rw [List.take_length] at hown
  refine wkQ.cell hown (cs' := [.ro (wds b.pcs) b.pcs.length, Ab.ops b.ops, .nils, .int .i64 b.last]) rfl (fun i => ?_) ?_
  ·match i with
   | 0 => exact .inl rfl
   | 1 => exact .inr ⟨rfl, rfl⟩
   | 2 => exact .inl rfl
   | 3 => exact .inl rfl
   | i + 4 => exact .inl rfl
  clear hb2 hown hk hk2 v h2
  simp only [push_cast, simprocAttr]
  refine lpc.rel [0, 2, 3, 5] (fun m ρ h' => ∃ (k : Nat) (v : AV), m = b.exits.length - k ∧ k ≤ b.exits.length ∧ Own 5 (upd H b3 ⟨[.ro (wds b.pcs) b.pcs.length, Ab.ops b.ops, v, .int .i64 b.last], 0⟩) v ((b.exits.take k).flatMap IEx.cells) k h' ∧
   ρ = [(0, .cp b.cells 0), (2, .ptr b2 0), (3, .ptr b3 0), (5, .int .i64 (k : Int))]) ⟨_, 0, .nils, rfl, by omega, .nil, rfl⟩ ?_
  rintro m _ h2 ⟨k, v, rfl, hk, hown, rfl⟩
  have hb2 := hown.get (upd_same _ _ _)
  simp only [push_cast, simprocAttr]
  refine ⟨fun hk2 => ⟨hk2, hk2, fun b6 hb6 => ?_⟩, fun hk2 => ?_⟩
  ·rw [era_none hb6]
   have hml := getD_map (n := k) hs3
   have hsn := flat_snoc IEx.cells b.exits IEx.zero k hk2
   generalize b.exits.getD k IEx.zero = e at hml hsn ⊢
   intro b7 hb7
   have hb73 : ¬ b3 = b7 := fun e => by rw [← e, hb2] at hb7; cases hb7
   have hb37 : ¬ b7 = b3 := fun e => hb73 e.symm
   have hh7 : H b7 = none := by
    have := hown.sub.none hb7
    rw [upd_ne hb37] at this
    exact this
   refine lpc.rel [0, 2, 3, 5, 6, 7, 8] (fun m ρ h' => ∃ (j : Nat) (v7 : AV), m = e.map.length - j ∧ j ≤ e.map.length ∧ Own 2 (upd h2 b7 ⟨[.int .i64 e.done, .int .u32 (e.pc.toNat : Int), .int .i64 e.to, .int .i64 e.why, v7], 0⟩) v7 ((e.map.take j).flatMap IVl.cells) j h' ∧
    ρ = [(0, .cp b.cells 0), (2, .ptr b2 0), (3, .ptr b3 0), (5, .int .i64 (k : Int)), (6, .cp e.cells 0), (7, .ptr b7 0), (8, .int .i64 (j : Int))]) ⟨_, 0, .nils, rfl, by omega, .nil, rfl⟩ ?_
   rintro m _ g2 ⟨j, v7, rfl, hj, ho7, rfl⟩
   have hg7 := ho7.get (upd_same _ _ _)
   simp only [push_cast, simprocAttr, hg7]
   refine ⟨fun hj2 => ⟨hj2, hj2, ?_⟩, fun hj2 => ?_⟩
   ·refine Own.app ho7 (m := 1) (IVl.len _) (by omega) (by omega) fun v8 h8 ho8 => ?_
    have hg8 := ho8.get (upd_same _ _ _)
    have ho9 := Own.upd ho8 (b := b7) (x := ⟨[.int .i64 e.done, .int .u32 (e.pc.toNat : Int), .int .i64 e.to, .int .i64 e.why, v8], 0⟩) (.inr ⟨_, upd_same _ _ _⟩)
    rw [upd_upd] at ho9
    simp (disch := omega) only [push_cast, simprocAttr, wrap_i64, toNat_ofInt64, Nat.min_eq_left, Int.toNat_of_nonneg, hg8, ho8.one]
    exact ⟨_, _, by omega, .refl _, j + 1, v8, rfl, by omega, by rw [flat_snoc _ _ IVl.zero _ hj2]; exact ho9, rfl⟩
   ·obtain rfl : j = e.map.length := by omega
    rw [List.take_length] at ho7
    refine wkQ.cell ho7 (cs' := e.cells) rfl (fun i => ?_) ?_
    ·match i with
     | 0 => exact .inl rfl
     | 1 => exact .inl rfl
     | 2 => exact .inl rfl
     | 3 => exact .inl rfl
     | 4 => exact .inr ⟨rfl, rfl⟩
     | i + 5 => exact .inl rfl
    clear hg7 ho7 hj hj2 v7 g2
    have ho' := Own.upd hown (b := b7) (x := ⟨e.cells, 0⟩) (.inl hb7)
    have hb2' := ho'.get (b := b3) (by rw [upd_ne hb73]; exact upd_same _ _ _)
    simp only [push_cast, simprocAttr, hb2', upd_at, hb73, hb2]
    refine Own.app ho' (m := 1) (IEx.len _) (by omega) (by omega) fun v4 h4 ho4 => ?_
    have hg3 := ho4.get (b := b3) (by rw [upd_ne hb73]; exact upd_same _ _ _)
    have hg7 := ho4.get (b := b7) (upd_same _ _ _)
    simp (disch := omega) only [push_cast, simprocAttr, wrap_i64, toNat_ofInt64, Nat.min_eq_left, Int.toNat_of_nonneg, hg3, hg7, ho4.one]
    have ho5 := Own.upd ho4 (b := b3) (x := ⟨[.ro (wds b.pcs) b.pcs.length, Ab.ops b.ops, v4, .int .i64 b.last], 0⟩) (.inr ⟨_, by rw [upd_ne hb73]; exact upd_same _ _ _⟩)
    rw [upd_comm hb37, upd_upd] at ho5
    obtain ⟨h6, hs6, ho6⟩ := Own.drop ho5 (by rw [upd_ne hb37]; exact hh7)
    exact ⟨_, h6, by omega, hs6, k + 1, v4, rfl, by omega, by rw [hsn]; exact ho6, rfl⟩
  ·obtain rfl : k = b.exits.length := by omega
   rw [List.take_length] at hown
   refine wkQ.cell hown (cs' := b.cells) rfl (fun i => ?_) ?_
   ·match i with
    | 0 => exact .inl rfl
    | 1 => exact .inl rfl
    | 2 => exact .inr ⟨rfl, rfl⟩
    | 3 => exact .inl rfl
    | i + 4 => exact .inl rfl
   subst hX
   have hne : ¬ b2 = b3 := fun e => by rw [← e, hH2] at hb3; cases hb3
   simp only [push_cast, simprocAttr, upd_at, hne, hH2]
   exact sub_upd hbb (sub_upd hb23.2 hsub)
theorem getD_ext {α : Type} {a b : List α} (d : α) (hl : a.length = b.length) (h : ∀ i, i < a.length → a.getD i d = b.getD i d) : a = b := by
 apply List.ext_getElem hl
 intro i h1 h2
 have := h i h1
 simpa [h1, h2] using this
theorem vl_eqd (x y : IVl) (neg : Bool) : aeq neg [.i, .i] (.agg x.cells) (.agg y.cells) = some (.bool (decide (x = y) != neg)) := by
 obtain ⟨a, b⟩ := x
 obtain ⟨c, d⟩ := y
 simp [aeq, cellsEq, IVl.cells]
 rw [Bool.eq_iff_iff]; simp
theorem SameMaps_spec (a b : List IVl) (hl : a.length ≤ 140737488355328) : Spec Tryz.prog G 38 [vls a, vls b] h (Is (.bool (decide (a = b))) h) := by
 refine Spec.is C38ok rfl ?_
 simp only [push_cast, simprocAttr]
 refine ⟨fun h1 => ?_, fun h1 => ?_⟩
 ·rw [decide_eq_false (fun e => h1 (by rw [e]))]
 ·have h1 : a.length = b.length := by omega
  refine lpc.rel [0, 1, 5] (fun m ρ h' => ∃ k : Nat, m = a.length - k ∧ k ≤ a.length ∧ h = h' ∧ (∀ i, i < k → a.getD i IVl.zero = b.getD i IVl.zero) ∧
   ρ = [(0, vls a), (1, vls b), (5, .int .i64 (k : Int))]) ⟨_, 0, rfl, by omega, rfl, by intro i hi; omega, rfl⟩ ?_
  rintro m _ _ ⟨k, rfl, hk, rfl, hall, rfl⟩
  simp only [push_cast, simprocAttr, vl_eqd]
  refine ⟨fun hk2 => ⟨hk2, hk2, by omega, by omega, fun hv => ?_, fun hv => ?_⟩, fun hk2 => ?_⟩
  ·rw [decide_eq_false (fun e => by rw [e] at hv; simp at hv)]
  ·simp (disch := omega) only [push_cast, simprocAttr, wrap_i64, toNat_ofInt64, Nat.min_eq_left, Int.toNat_of_nonneg]
   refine ⟨_, _, by omega, .refl _, k + 1, rfl, by omega, rfl, fun i hi => ?_, rfl⟩
   by_cases hik : i = k
   ·subst hik; simpa using hv
   ·exact hall i (by omega)
  ·obtain rfl : k = a.length := by omega
   rw [decide_eq_true (getD_ext IVl.zero h1 hall)]
theorem rSame_spec (a b : IBk) (ha : a.wf) : Spec Tryz.prog G 15 [.agg a.cells, .agg b.cells] h (Is (.bool (decide (a = b))) h) := by
 have hp := ha.hp
 have ho := ha.ho
 have he := ha.he
 refine Spec.is C15ok rfl ?_
 simp only [push_cast, simprocAttr]
 refine ⟨fun h1 => ?_, fun h1 => ?_⟩
 ·rw [decide_eq_false (fun e => by rw [e] at h1; simp at h1)]
 ·have l1 : a.pcs.length = b.pcs.length := by omega
  have l2 : a.ops.length = b.ops.length := by omega
  have l3 : a.exits.length = b.exits.length := by omega
  refine lpc.rel [2, 3, 5] (fun m ρ h' => ∃ k : Nat, m = a.pcs.length - k ∧ k ≤ a.pcs.length ∧ h = h' ∧ (∀ i, i < k → a.pcs.getD i 0#32 = b.pcs.getD i 0#32) ∧
   ρ = [(2, .cp a.cells 0), (3, .cp b.cells 0), (5, .int .i64 (k : Int))]) ⟨_, 0, rfl, by omega, rfl, by intro i hi; omega, rfl⟩ ?_
  rintro m _ _ ⟨k, rfl, hk, rfl, hall, rfl⟩
  simp only [push_cast, simprocAttr]
  refine ⟨fun hk2 => ⟨hk2, hk2, by omega, by omega, fun hv => ?_, fun hv => ?_⟩, fun hk2 => ?_⟩
  ·rw [decide_eq_false (fun e => by rw [e] at hv; simp at hv)]
  ·simp (disch := omega) only [push_cast, simprocAttr, wrap_i64, toNat_ofInt64, Nat.min_eq_left, Int.toNat_of_nonneg]
   refine ⟨_, _, by omega, .refl _, k + 1, rfl, by omega, rfl, fun i hi => ?_, rfl⟩
   by_cases hik : i = k
   ·subst hik; first | exact hv | simpa using hv
   ·exact hall i (by omega)
  ·obtain rfl : k = a.pcs.length := by omega
   have q1 := getD_ext 0#32 l1 hall
   refine lpc.rel [2, 3, 6] (fun m ρ h' => ∃ k : Nat, m = a.ops.length - k ∧ k ≤ a.ops.length ∧ h = h' ∧ (∀ i, i < k → a.ops.getD i IOp.zero = b.ops.getD i IOp.zero) ∧
    ρ = [(2, .cp a.cells 0), (3, .cp b.cells 0), (6, .int .i64 (k : Int))]) ⟨_, 0, rfl, by omega, rfl, by intro i hi; omega, rfl⟩ ?_
   rintro m _ _ ⟨k, rfl, hk, rfl, hall, rfl⟩
   simp only [push_cast, simprocAttr, op_eqd]
   refine ⟨fun hk2 => ⟨hk2, hk2, by omega, by omega, fun hv => ?_, fun hv => ?_⟩, fun hk2 => ?_⟩
   ·rw [decide_eq_false (fun e => by rw [e] at hv; simp at hv)]
   ·simp (disch := omega) only [push_cast, simprocAttr, wrap_i64, toNat_ofInt64, Nat.min_eq_left, Int.toNat_of_nonneg]
    refine ⟨_, _, by omega, .refl _, k + 1, rfl, by omega, rfl, fun i hi => ?_, rfl⟩
    by_cases hik : i = k
    ·subst hik; simpa using hv
    ·exact hall i (by omega)
   ·obtain rfl : k = a.ops.length := by omega
    have q2 := getD_ext IOp.zero l2 hall
    refine lpc.rel [2, 3, 7] (fun m ρ h' => ∃ k : Nat, m = a.exits.length - k ∧ k ≤ a.exits.length ∧ h = h' ∧ (∀ i, i < k → a.exits.getD i IEx.zero = b.exits.getD i IEx.zero) ∧
     ρ = [(2, .cp a.cells 0), (3, .cp b.cells 0), (7, .int .i64 (k : Int))]) ⟨_, 0, rfl, by omega, rfl, by intro i hi; omega, rfl⟩ ?_
    rintro m _ _ ⟨k, rfl, hk, rfl, hall, rfl⟩
    simp only [push_cast, simprocAttr]
    refine ⟨fun hk2 => ⟨hk2, hk2, fun c8 hc8 => ?_⟩, fun hk2 => ?_⟩
    ·rw [era_none hc8]
     refine ⟨by omega, by omega, fun c9 hc9 => ?_⟩
     rw [era_none hc9]
     have hml := getD_map (n := k) ha.hm
     have hne : a.exits.getD k IEx.zero ≠ b.exits.getD k IEx.zero → decide (a = b) = false := fun hn => decide_eq_false (fun e => hn (by rw [e]))
     have hgo : a.exits.getD k IEx.zero = b.exits.getD k IEx.zero → ∀ i, i < k + 1 → a.exits.getD i IEx.zero = b.exits.getD i IEx.zero := by
      intro hv i hi
      by_cases hik : i = k
      ·subst hik; exact hv
      ·exact hall i (by omega)
     generalize a.exits.getD k IEx.zero = x at hml hne hgo ⊢
     generalize b.exits.getD k IEx.zero = y at hne hgo ⊢
     refine ⟨fun h4 => (SameMaps_spec x.map y.map hml).to ?_, fun h4 => ?_⟩
     ·simp only [push_cast, simprocAttr]
      refine ⟨fun h5 => by rw [hne (fun e => h5 (by rw [e]))], fun h5 => ?_⟩
      simp (disch := omega) only [push_cast, simprocAttr, wrap_i64, toNat_ofInt64, Nat.min_eq_left, Int.toNat_of_nonneg]
      refine ⟨_, _, by omega, .refl _, k + 1, rfl, by omega, rfl, hgo ?_, rfl⟩
      obtain ⟨x1, x2, x3, x4, x5⟩ := x
      obtain ⟨y1, y2, y3, y4, y5⟩ := y
      simp only at h4 h5
      simp [h4.1.1.1, h4.1.1.2, h4.1.2, h4.2, h5]
     ·refine ⟨?_, .refl _⟩
      rw [hne (fun e => by rw [e] at h4; simp at h4)]
    ·obtain rfl : k = a.exits.length := by omega
     have q3 := getD_ext IEx.zero l3 hall
     rw [decide_eq_true]
     obtain ⟨w1, w2, w3, w4⟩ := a
     obtain ⟨v1, v2, v3, v4⟩ := b
     simp only at *
     simp [q1, q2, q3, h1.1.1.1]
end Go.Ab
end
section
namespace Go.Ab
open Go.Proofs
variable {G : Glo} {h : Heap}
def smT (es : List IEx) : Nat → Nat
 | 0 => 0
 | k + 1 => smT es k + (es.getD k IEx.zero).map.length
def IBk.size (b : IBk) : Nat := b.ops.length + b.exits.length + smT b.exits b.exits.length
def IBk.heavy (b : IBk) : Bool := decide (b.pcs.length > 100) || (decide (b.ops.length > 100) && decide (b.ops.length ≤ 512)) || decide (b.ops.length > 600) || decide (b.exits.length > 200)
def IBk.light (b : IBk) : Bool := ! b.heavy && allN b.exits.length fun i => decide ((b.exits.getD i IEx.zero).map.length ≤ 100)
theorem light_spec (b : IBk) (he : b.exits.length ≤ 9223372036854775807) : Spec Tryz.prog G 23 [.agg b.cells] h (Is (.bool b.light) h) := by
 have hL : b.light = (! b.heavy && allN b.exits.length fun i => decide ((b.exits.getD i IEx.zero).map.length ≤ 100)) := rfl
 have hH : b.heavy = (decide (b.pcs.length > 100) || (decide (b.ops.length > 100) && decide (b.ops.length ≤ 512)) || decide (b.ops.length > 600) || decide (b.exits.length > 200)) := rfl
 generalize b.light = L at hL ⊢
 refine Spec.is C23ok rfl ?_
 simp only [push_cast, simprocAttr]
 refine ⟨fun h1 => ⟨fun h2 => ?_, fun h2 => ?_⟩, fun h1 => ?_⟩
 ·have : b.heavy = true := by rw [hH]; simp only [Bool.or_eq_true, Bool.and_eq_true, decide_eq_true_eq]; omega
  rw [hL, this]; rfl
 ·have : b.heavy = false := by
   rw [hH, ← Bool.not_eq_true]
   simp only [Bool.or_eq_true, Bool.and_eq_true, decide_eq_true_eq]
   rw [← Bool.not_eq_true] at h2
   simp only [Bool.and_eq_true, decide_eq_true_eq] at h2
   omega
  rw [this, Bool.not_false, Bool.true_and] at hL
  refine lpc.rel [1, 3] (fun m ρ h' => ∃ k : Nat, m = b.exits.length - k ∧ k ≤ b.exits.length ∧ h = h' ∧ (∀ i, i < k → decide ((b.exits.getD i IEx.zero).map.length ≤ 100) = true) ∧
   ρ = [(1, .cp b.cells 0), (3, .int .i64 (k : Int))]) ⟨_, 0, rfl, by omega, rfl, by intro i hi; omega, rfl⟩ ?_
  rintro m _ _ ⟨k, rfl, hk, rfl, hall, rfl⟩
  simp only [push_cast, simprocAttr]
  refine ⟨fun hk2 => ⟨hk2, hk2, fun hv => ?_, fun hv => ?_⟩, fun hk2 => ?_⟩
  ·rw [hL, allN_false k hk2 (decide_eq_false (by omega))]
  ·simp (disch := omega) only [push_cast, simprocAttr, wrap_i64, toNat_ofInt64, Nat.min_eq_left, Int.toNat_of_nonneg]
   refine ⟨_, _, by omega, .refl _, k + 1, rfl, by omega, rfl, fun i hi => ?_, rfl⟩
   by_cases hik : i = k
   ·subst hik; omega
   ·exact of_decide_eq_true (hall i (by omega))
  ·obtain rfl : k = b.exits.length := by omega
   rw [hL, allN_true hall]
 ·have : b.heavy = true := by rw [hH]; simp only [Bool.or_eq_true, Bool.and_eq_true, decide_eq_true_eq]; omega
  rw [hL, this]; rfl
theorem light_facts {b : IBk} (h : b.light = true) : b.wf ∧ b.ops.length ≤ 600 ∧ b.exits.length ≤ 200 ∧ b.pcs.length ≤ 100 ∧ b.size ≤ 30000 ∧ ∀ e ∈ b.exits, e.map.length ≤ 100 := by
 simp only [IBk.light, Bool.and_eq_true, Bool.not_eq_true'] at h
 obtain ⟨h1, h2⟩ := h
 simp only [IBk.heavy, Bool.or_eq_false_iff, Bool.and_eq_false_iff, decide_eq_false_iff_not] at h1
 have hm : ∀ e ∈ b.exits, e.map.length ≤ 100 := by
  intro e he
  obtain ⟨i, hi, rfl⟩ := List.getElem_of_mem he
  have := allN_get h2 i hi
  simpa [hi] using this
 have hs : ∀ k, smT b.exits k ≤ 100 * k := by
  intro k
  induction k with
  | zero => exact Nat.le_refl _
  | succ k ih =>
   rw [smT]
   have : (b.exits.getD k IEx.zero).map.length ≤ 100 := by
    by_cases hk : k < b.exits.length
    ·have := hm b.exits[k] (List.getElem_mem _)
     simpa [hk] using this
    ·have : b.exits.getD k IEx.zero = IEx.zero := by simp [Nat.not_lt.1 hk]
     rw [this]; simp [IEx.zero]
   omega
 have h3 := hs b.exits.length
 refine ⟨⟨by omega, by omega, by omega, fun e he => by have := hm e he; omega, by omega, by omega, by omega, fun e he => by have := hm e he; omega⟩, by omega, by omega, by omega, ?_, hm⟩
 rw [IBk.size]
 omega
end Go.Ab
end
section
namespace Go.Ab
open Go.Proofs
variable {G : Glo} {h : Heap}
def IBk.zero : IBk := ⟨[], [], [], 0⟩
@[push_cast] theorem bks_p (l : List IBk) (k : Nat) : partOf (l.flatMap IBk.cells) (k * 4) (some 4) = if k < l.length then some (.agg (l.getD k IBk.zero).cells) else none := flat_partD _ _ _ IBk.zero IBk.len (by omega) _
@[push_cast] theorem bkps_get (l : List IBk) (i : Nat) : (l.map bkP)[i]? = if i < l.length then some (bkP (l.getD i IBk.zero)) else none := by
 simp only [List.getElem?_map]
 split
 ·rename_i h; simp [h]
 ·rename_i h; simp [Nat.not_lt.1 h]
end Go.Ab
end
section
namespace Go.Ab
open Go.Proofs
variable {G : Glo} {h : Heap}
theorem own_new {sz : Nat} {b : Nat} (hb : h b = none) : Own sz h (.sl b 0 0 0) [] 0 (upd h b ⟨[], 0⟩) := .row b 0 0 [] [] 0 hb (by simp) (by simp)
theorem cloneP_spec (l : List (BitVec 32)) (hl : l.length ≤ 1000000000000) : Spec Tryz.prog G 61 [.ro (wds l) l.length] h (Is (.ro (wds l) l.length) h) := by
 refine Spec.is C61ok rfl ?_
 simp only [push_cast, simprocAttr]
 refine ⟨fun h0 => ?_, fun b hb => ?_⟩
 ·have : l = [] := List.eq_nil_of_length_eq_zero h0
  subst this
  exact wkQ.own (sz := 1) .nil (by simp only [push_cast, simprocAttr]; rfl)
 ·refine Own.app (own_new hb) (m := l.length) (by simp [wds]) (by omega) (by omega) fun v h1 ho => ?_
  rw [List.nil_append, Nat.zero_add] at ho
  simp only [push_cast, simprocAttr]
  exact wkQ.own ho (by simp only [push_cast, simprocAttr])
theorem cloneO_spec (l : List IOp) (hl : l.length ≤ 1000000000000) : Spec Tryz.prog G 62 [ops l] h (Is (ops l) h) := by
 refine Spec.is C62ok rfl ?_
 simp only [push_cast, simprocAttr]
 have hn := flat_len IOp.cells 6 l (fun x _ => IOp.len x)
 refine ⟨fun h0 => ?_, fun b hb => ?_⟩
 ·have : l = [] := List.eq_nil_of_length_eq_zero h0
  subst this
  exact wkQ.own (sz := 6) .nil (by simp only [push_cast, simprocAttr]; rfl)
 ·refine ⟨hn, Own.app (own_new hb) (m := l.length) hn (by omega) (by omega) fun v h1 ho => ?_⟩
  rw [List.nil_append, Nat.zero_add] at ho
  simp only [push_cast, simprocAttr]
  exact wkQ.own ho (by simp only [push_cast, simprocAttr])
theorem cloneV_spec (l : List IVl) (hl : l.length ≤ 1000000000000) : Spec Tryz.prog G 64 [vls l] h (fun r h' => Own 2 h r (l.flatMap IVl.cells) l.length h') := by
 refine Spec.walk C64ok rfl ?_
 simp only [push_cast, simprocAttr]
 have hn := flat_len IVl.cells 2 l (fun x _ => IVl.len x)
 refine ⟨fun h0 => ?_, fun b hb => ?_⟩
 ·have : l = [] := List.eq_nil_of_length_eq_zero h0
  subst this
  exact .nil
 ·refine ⟨hn, Own.app (own_new hb) (m := l.length) hn (by omega) (by omega) fun v h1 ho => ?_⟩
  rw [List.nil_append, Nat.zero_add] at ho
  simp only [push_cast, simprocAttr]
  exact ho
theorem cloneE_spec (l : List IEx) (hl : l.length ≤ 1000000000000) : Spec Tryz.prog G 63 [exs l] h (fun r h' => Own 5 h r (l.flatMap IEx.cells) l.length h') := by
 refine Spec.walk C63ok rfl ?_
 simp only [push_cast, simprocAttr]
 have hn := flat_len IEx.cells 5 l (fun x _ => IEx.len x)
 refine ⟨fun h0 => ?_, fun b hb => ?_⟩
 ·have : l = [] := List.eq_nil_of_length_eq_zero h0
  subst this
  exact .nil
 ·refine ⟨hn, Own.app (own_new hb) (m := l.length) hn (by omega) (by omega) fun v h1 ho => ?_⟩
  rw [List.nil_append, Nat.zero_add] at ho
  simp only [push_cast, simprocAttr]
  exact ho
end Go.Ab
end
section
namespace Go.Ab
open Go.Proofs
variable {G : Glo} {h : Heap}
def exC (e : IEx) (v : AV) : List AV := [.int .i64 e.done, .int .u32 (e.pc.toNat : Int), .int .i64 e.to, .int .i64 e.why, v]
def rowOf : List IEx → List AV → List AV
 | e :: es, v :: vs => exC e v ++ rowOf es vs
 | _, _ => []
def vlsm (e : IEx) : AV := vls e.map
def mp (e : IEx) : List AV × Nat := (e.map.flatMap IVl.cells, e.map.length)
theorem rowOf_self (es : List IEx) : rowOf es (es.map vlsm) = es.flatMap IEx.cells := by
 induction es with
 | nil => rfl
 | cons e es ih => simp only [List.map_cons, rowOf, List.flatMap_cons, ih]; rfl
theorem rowOf_len (es : List IEx) : ∀ (vs : List AV), vs.length = es.length → (rowOf es vs).length = es.length * 5 := by
 induction es with
 | nil => intro vs _; simp [rowOf]
 | cons e es ih =>
  intro vs hl
  match vs, hl with
  | v :: vs, hl =>
   have := ih vs (by simpa using hl)
   simp only [rowOf, List.length_append, this, exC, List.length_cons, List.length_nil]
   omega
theorem rowOf_get (es : List IEx) : ∀ (vs : List AV) (k j : Nat), vs.length = es.length → k < es.length → j < 5 → (rowOf es vs)[k * 5 + j]? = (exC (es.getD k IEx.zero) (vs.getD k .nils))[j]? := by
 induction es with
 | nil => intro vs k j _ hk; simp at hk
 | cons e es ih =>
  intro vs k j hl hk hj
  match vs, hl with
  | v :: vs, hl =>
   cases k with
   | zero =>
    simp only [rowOf, Nat.zero_mul, Nat.zero_add]
    rw [List.getElem?_append_left (by simpa [exC] using hj)]
    rfl
   | succ k =>
    simp only [rowOf]
    rw [List.getElem?_append_right (by simp [exC]; omega)]
    have : (k + 1) * 5 + j - (exC e v).length = k * 5 + j := by simp [exC]; omega
    rw [this, ih vs k j (by simpa using hl) (by simpa using hk) hj]
    rfl
theorem rowOf_set (es : List IEx) : ∀ (vs : List AV) (k : Nat) (v : AV), vs.length = es.length → k < es.length → (rowOf es vs).set (k * 5 + 4) v = rowOf es (vs.set k v) := by
 induction es with
 | nil => intro vs k v _ hk; simp at hk
 | cons e es ih =>
  intro vs k v' hl hk
  match vs, hl with
  | v :: vs, hl =>
   cases k with
   | zero => rfl
   | succ k =>
    simp only [rowOf, List.set_cons_succ]
    rw [List.set_append_right _ _ (by simp [exC]; omega)]
    have : (k + 1) * 5 + 4 - (exC e v).length = k * 5 + 4 := by simp [exC]; omega
    rw [this, ih vs k v' (by simpa using hl) (by simpa using hk)]
theorem rowOf_set2 (es : List IEx) : ∀ (vs : List AV) (k : Nat) (x : Int), vs.length = es.length → k < es.length → (rowOf es vs).set (k * 5 + 2) (.int .i64 x) = rowOf (es.set k { es.getD k IEx.zero with to := x }) vs := by
 induction es with
 | nil => intro vs k v _ hk; simp at hk
 | cons e es ih =>
  intro vs k x hl hk
  match vs, hl with
  | v :: vs, hl =>
   cases k with
   | zero => rfl
   | succ k =>
    simp only [rowOf, List.set_cons_succ]
    rw [List.set_append_right _ _ (by simp [exC]; omega)]
    have : (k + 1) * 5 + 2 - (exC e v).length = k * 5 + 2 := by simp [exC]; omega
    rw [this, ih vs k x (by simpa using hl) (by simpa using hk)]
    rfl
def ExO (g : Heap) (vx : AV) (es : List IEx) (h : Heap) : Prop := ∃ h1 ws, Own 5 g vx (rowOf es ws) es.length h1 ∧ Rows 2 h1 ws (es.map mp) h
theorem ExO.sub {g vx es} (hx : ExO g vx es h) : Sub g h := by
 obtain ⟨h1, ws, o, r⟩ := hx
 exact o.sub.trans r.sub
theorem ExO.upd {g vx es} (hx : ExO g vx es h) {b : Nat} {x : Blk} (hb : h b = none ∨ ∃ y, g b = some y) : ExO (Ab.upd g b x) vx es (Ab.upd h b x) := by
 obtain ⟨h1, ws, o, r⟩ := hx
 rcases hb with hb | ⟨y, hy⟩
 ·exact ⟨_, ws, o.upd (.inl (r.sub.none hb)), r.upd (.inl hb)⟩
 ·exact ⟨_, ws, o.upd (.inr ⟨y, hy⟩), r.upd (.inr ⟨y, o.sub b y hy⟩)⟩
theorem Clone_spec (b : IBk) (hw : b.wf) : Spec Tryz.prog G 31 [bkP b] h (fun r h' => ∃ c g vx, r = .ptr c 0 ∧ h c = none ∧ Sub h g ∧ g c = some ⟨[.ro (wds b.pcs) b.pcs.length, ops b.ops, vx, .int .i64 b.last], 0⟩ ∧ ExO g vx b.exits h') := by
 have hp := hw.hp
 obtain ⟨hs1, hs2, hs3⟩ := hw.hs
 refine Spec.walk C31ok rfl ?_
 simp only [push_cast, simprocAttr]
 refine (cloneP_spec b.pcs hw.hq).to ?_
 simp only [push_cast, simprocAttr]
 refine (cloneO_spec b.ops hs1).to ?_
 simp only [push_cast, simprocAttr]
 refine (cloneE_spec b.exits hs2).mono ?_
 rintro vx h1 hox
 simp only [push_cast, simprocAttr, hox.one]
 intro c3 hc3
 have hoy := hox.upd (b := c3) (x := ⟨[.ro (wds b.pcs) b.pcs.length, ops b.ops, vx, .int .i64 b.last], 0⟩) (.inl hc3)
 have hh3 : h c3 = none := hox.sub.none hc3
 have hal := hox.alen
 simp only [push_cast, simprocAttr, hal]
 generalize hB : (⟨[.ro (wds b.pcs) b.pcs.length, ops b.ops, vx, .int .i64 b.last], 0⟩ : Blk) = B at hoy ⊢
 have hs0 : Sub h (Ab.upd h c3 B) := sub_upd hh3 (.refl _)
 have hg3 : Ab.upd h c3 B c3 = some B := upd_same _ _ _
 rw [← rowOf_self] at hoy
 generalize Ab.upd h c3 B = g at hoy hs0 hg3
 generalize Ab.upd h1 c3 B = H at hoy ⊢
 refine lpc.rel [3, 32, 33] (fun m ρ h' => ∃ (k : Nat) (vs : List AV) (h1 : Heap), m = b.exits.length - k ∧ k ≤ b.exits.length ∧ vs.length = k ∧ Own 5 g vx (rowOf b.exits (vs ++ (b.exits.drop k).map vlsm)) b.exits.length h1 ∧ Rows 2 h1 vs ((b.exits.take k).map mp) h' ∧
  ρ = [(3, .ptr c3 0), (32, .int .i64 (b.exits.length : Int)), (33, .int .i64 (k : Int))]) ⟨_, 0, [], H, rfl, by omega, rfl, hoy, .nil, rfl⟩ ?_
 rintro m _ h2 ⟨k, vs, h1, rfl, hk, hvl, ho, hr, rfl⟩
 have hc := hr.sub c3 _ (ho.get hg3)
 rw [← hB] at hc
 simp only [push_cast, simprocAttr, hc]
 refine ⟨fun hk2 => ?_, fun hk2 => ?_⟩
 ·obtain ⟨br, pre, cap, sp, hv, e2, e3, e4⟩ := own_lie ho (by omega)
  subst hv
  have hbr := hr.sub br _ e2
  have hlw : (vs ++ (b.exits.drop k).map vlsm).length = b.exits.length := by simp; omega
  have hget : (pre ++ rowOf b.exits (vs ++ (b.exits.drop k).map vlsm))[pre.length + k * 5 + 4]? = some (vls (b.exits.getD k IEx.zero).map) := by
   rw [Nat.add_assoc, List.getElem?_append_right (by omega), Nat.add_sub_cancel_left, rowOf_get _ _ _ _ hlw hk2 (by omega)]
   have : (vs ++ (b.exits.drop k).map vlsm).getD k .nils = vls (b.exits.getD k IEx.zero).map := by
    rw [List.getD_eq_getElem?_getD, List.getElem?_append_right (by omega), hvl]
    simp [hk2, vlsm]
   rw [this]; rfl
  simp only [push_cast, simprocAttr, hc, hbr, hk2, hget]
  have hml := getD_map (n := k) hs3
  have htk : (b.exits.take (k + 1)).map mp = (b.exits.take k).map mp ++ [mp (b.exits.getD k IEx.zero)] := by
   rw [List.take_add_one, List.map_append]; simp [hk2]
  have hws : ∀ r, (vs ++ (b.exits.drop k).map vlsm).set k r = (vs ++ [r]) ++ (b.exits.drop (k + 1)).map vlsm := by
   intro r
   rw [List.set_append_right _ _ (by omega), List.drop_eq_getElem_cons hk2, hvl, Nat.sub_self, List.map_cons, List.set_cons_zero, List.append_assoc]
   rfl
  have hro := fun r => rowOf_set b.exits _ k r hlw hk2
  have hlr := rowOf_len b.exits _ hlw
  generalize b.exits.getD k IEx.zero = e at hml htk hget ⊢
  refine (cloneV_spec e.map hml).mono ?_
  rintro r h3 hor
  have hc' := hor.sub c3 _ hc
  have hbr' := hor.sub br _ hbr
  have hset : (pre ++ rowOf b.exits (vs ++ (b.exits.drop k).map vlsm)).set (pre.length + k * 5 + 4) r = pre ++ rowOf b.exits ((vs ++ [r]) ++ (b.exits.drop (k + 1)).map vlsm) := by
   rw [Nat.add_assoc, List.set_append_right _ _ (by omega), Nat.add_sub_cancel_left, hro, hws]
  have hll : (pre ++ rowOf b.exits (vs ++ (b.exits.drop k).map vlsm)).length = pre.length + b.exits.length * 5 := by
   rw [List.length_append, hlr]
  simp (disch := omega) only [push_cast, simprocAttr, wrap_i64, toNat_ofInt64, Nat.min_eq_left, Int.toNat_of_nonneg, hc', hbr', hk2, hget, hor.one, hset, hll]
  refine ⟨by omega, _, _, by omega, .refl _, k + 1, vs ++ [r], _, rfl, by omega, by simp [hvl], e4 _ ?_, ?_, rfl⟩
  ·rw [hlr, rowOf_len _ _ (by simp; omega)]
  ·rw [htk]
   exact (Rows.snoc hr hor).upd (.inr ⟨_, e2⟩)
 ·obtain rfl : k = b.exits.length := by omega
  rw [List.take_length] at hr
  subst hB
  exact ⟨c3, g, vx, rfl, hh3, hs0, hg3, h1, _, by rw [List.drop_length, List.map_nil, List.append_nil] at ho; exact ho, hr⟩
end Go.Ab
end
section
namespace Go.Ab
structure Fw where
 l : List IOp
 to : List Int
 stored : Int
def ren (to : List Int) (o : IOp) : IOp := if o.code = 3 ∨ o.code = 5 ∨ o.code = 6 then { o with a := to.getD o.a.toNat 0, b := to.getD o.b.toNat 0 } else if o.code = 4 then { o with a := to.getD o.a.toNat 0 } else o
def knownN (l : List IOp) (stored : Int) (o : IOp) : Int :=
 if o.code ≠ 4 ∨ o.imm.toNat ≠ 13 ∨ stored < 0 then -1 else
  let s := l.getD stored.toNat IOp.zero
  if s.imm.toNat ≠ 18 ∨ s.a ≠ o.a then -1 else s.b
def Fw.step (f : Fw) (o0 : IOp) : Fw :=
 let o := ren f.to o0
 let v := knownN f.l f.stored o
 if 0 ≤ v then ⟨f.l, f.to ++ [v], f.stored⟩ else ⟨f.l ++ [o], f.to ++ [(f.l.length : Int)], if o.code = 5 then f.l.length else f.stored⟩
def Fw.init : Fw := ⟨[], [], -1⟩
def fwd (l : List IOp) : Fw := l.foldl Fw.step Fw.init
def renV (to : List Int) (v : IVl) : IVl := { v with val := to.getD v.val.toNat 0 }
def renE (to : List Int) (e : IEx) : IEx := { e with to := if e.to = -1 then -1 else to.getD e.to.toNat 0, map := e.map.map (renV to) }
def IBk.fw (b : IBk) : IBk := ⟨b.pcs, (fwd b.ops).l, b.exits.map (renE (fwd b.ops).to), b.last⟩
end Go.Ab
end
section
namespace Go.Ab
open Go.Proofs
variable {G : Glo} {h : Heap}
def renOK (to : List Int) (o : IOp) : Prop := (o.code = 3 ∨ o.code = 5 ∨ o.code = 6 → (0 ≤ o.a ∧ o.a < to.length) ∧ 0 ≤ o.b ∧ o.b < to.length) ∧ (o.code = 4 → 0 ≤ o.a ∧ o.a < to.length)
@[push_cast] theorem ints_getP (pre : List AV) (l : List Int) (i : Nat) : (pre ++ l.map (AV.int .i64))[pre.length + i]? = if i < l.length then some (AV.int .i64 (l.getD i 0)) else none := by
 rw [List.getElem?_append_right (by omega), Nat.add_sub_cancel_left, ints_get]
@[push_cast] theorem partOf_pre (pre c : List AV) (i n : Nat) : partOf (pre ++ c) (pre.length + i) (some n) = partOf c i (some n) := by
 simp only [partOf_some, List.length_append]
 by_cases h : i + n ≤ c.length
 ·rw [if_pos h, if_pos (by omega), ← List.drop_drop, List.drop_left]
 ·rw [if_neg h, if_neg (by omega)]
theorem names_spec {b5 : Nat} {p vo vx last vt st : AV} {h1 : Heap} {to : List Int} (hb : h b5 = some ⟨[p, vo, vx, last, vt, st], 0⟩) (ho : Own 1 h1 vt (to.map (.int .i64)) to.length h) (o : IOp) (hR : renOK to o) :
  Spec Tryz.prog G 96 [.ptr b5 0, .agg o.cells] h (Is (.agg (ren to o).cells) h) := by
 obtain ⟨hR1, hR2⟩ := hR
 refine Spec.is C96ok rfl ?_
 simp only [push_cast, simprocAttr]
 intro b3 hb3 b4 hb4
 have n34 := upd_none hb4
 have f1 : ¬ b4 = b3 := n34.1
 have f2 : ¬ b3 = b4 := fun e => f1 e.symm
 have f3 : ¬ b5 = b3 := fun e => by rw [← e, hb] at hb3; cases hb3
 have f4 : ¬ b5 = b4 := fun e => by rw [← e, upd_ne f3, hb] at hb4; cases hb4
 have hsub : ∀ X Y Z W, Sub h (Ab.upd (Ab.upd (Ab.upd (Ab.upd h b3 X) b4 Y) b3 Z) b4 W) := fun X Y Z W => sub_upd n34.2 (sub_upd hb3 (sub_upd n34.2 (sub_upd hb3 (.refl _))))
 have hsub2 : ∀ X Y W, Sub h (Ab.upd (Ab.upd (Ab.upd h b3 X) b4 Y) b4 W) := fun X Y W => sub_upd n34.2 (sub_upd n34.2 (sub_upd hb3 (.refl _)))
 unfold ren
 by_cases g3 : o.code = 3 ∨ o.code = 5 ∨ o.code = 6
 ·obtain ⟨⟨q1, q2⟩, q3, q4⟩ := hR1 g3
  obtain ⟨bt, pre, cap, sp, rfl, e2, e3, e4⟩ := own_lie ho (by omega)
  have f5 : ¬ bt = b3 := fun e => by rw [← e, e2] at hb3; cases hb3
  have f6 : ¬ bt = b4 := fun e => by rw [← e, upd_ne f5, e2] at hb4; cases hb4
  have q5 : o.a.toNat < to.length := by omega
  have q6 : o.b.toNat < to.length := by omega
  rw [if_pos g3]
  rcases g3 with g | g | g
  ·simp (disch := omega) only [push_cast, simprocAttr, wrap_i64, toNat_ofInt64, Nat.min_eq_left, Int.toNat_of_nonneg, upd_at, f1, f2, f3, f4, f5, f6, hb, e2, q1, q2, q3, q4, q5, q6, g]
   exact hsub _ _ _ _
  ·simp (disch := omega) only [push_cast, simprocAttr, wrap_i64, toNat_ofInt64, Nat.min_eq_left, Int.toNat_of_nonneg, upd_at, f1, f2, f3, f4, f5, f6, hb, e2, q1, q2, q3, q4, q5, q6, g]
   exact hsub _ _ _ _
  ·simp (disch := omega) only [push_cast, simprocAttr, wrap_i64, toNat_ofInt64, Nat.min_eq_left, Int.toNat_of_nonneg, upd_at, f1, f2, f3, f4, f5, f6, hb, e2, q1, q2, q3, q4, q5, q6, g]
   exact hsub _ _ _ _
 ·rw [if_neg g3]
  by_cases g4 : o.code = 4
  ·obtain ⟨q1, q2⟩ := hR2 g4
   obtain ⟨bt, pre, cap, sp, rfl, e2, e3, e4⟩ := own_lie ho (by omega)
   have f5 : ¬ bt = b3 := fun e => by rw [← e, e2] at hb3; cases hb3
   have f6 : ¬ bt = b4 := fun e => by rw [← e, upd_ne f5, e2] at hb4; cases hb4
   have q5 : o.a.toNat < to.length := by omega
   rw [if_pos g4]
   simp (disch := omega) only [push_cast, simprocAttr, wrap_i64, toNat_ofInt64, Nat.min_eq_left, Int.toNat_of_nonneg, upd_at, f1, f2, f3, f4, f5, f6, hb, e2, q1, q2, q5, g4]
   exact hsub _ _ _ _
  ·rw [if_neg g4]
   have g5 : ¬ o.code = 3 := by omega
   have g6 : ¬ o.code = 5 := by omega
   have g7 : ¬ o.code = 6 := by omega
   simp (disch := omega) only [push_cast, simprocAttr, wrap_i64, toNat_ofInt64, Nat.min_eq_left, Int.toNat_of_nonneg, upd_at, f1, f2, f3, f4, hb, g4, g5, g6, g7]
   exact sub_upd n34.2 (sub_upd hb3 (.refl _))
theorem known_spec {b5 : Nat} {p vo vx last vt : AV} {g : Heap} {l : List IOp} {stored : Int} (hb : h b5 = some ⟨[p, vo, vx, last, vt, .int .i64 stored], 0⟩) (ho : Own 6 g vo (l.flatMap IOp.cells) l.length h) (hst : stored < l.length) (o : IOp) :
  Spec Tryz.prog G 97 [.ptr b5 0, .agg o.cells] h (Is (.int .i64 (knownN l stored o)) h) := by
 have hK : knownN l stored o = if o.code ≠ 4 ∨ o.imm.toNat ≠ 13 ∨ stored < 0 then -1 else
  if (l.getD stored.toNat IOp.zero).imm.toNat ≠ 18 ∨ (l.getD stored.toNat IOp.zero).a ≠ o.a then -1 else (l.getD stored.toNat IOp.zero).b := rfl
 generalize knownN l stored o = K at hK ⊢
 have w13 : IntKind.i64.wrap 13 = 13 := by decide
 refine Spec.is C97ok rfl ?_
 by_cases g1 : o.code = 4
 ·by_cases g2 : (o.imm.toNat : Int) = 13
  ·by_cases g3 : stored < 0
   ·rw [if_pos (by omega)] at hK
    simp only [push_cast, simprocAttr, g1, g2, g3, hb, w13]
    rw [hK]
   ·obtain ⟨bt, pre, cap, sp, rfl, e2, e3, e4⟩ := own_lie ho (by omega)
    rw [if_neg (by omega)] at hK
    have q1 : stored.toNat < l.length := by omega
    have q2 : 0 ≤ stored := by omega
    generalize hs : l.getD stored.toNat IOp.zero = s at hK ⊢
    simp only [push_cast, simprocAttr, g1, g2, g3, hb, e2, w13, q1, q2, hst]
    intro c hc
    have f1 : ¬ b5 = c := fun e => by rw [← e, hb] at hc; cases hc
    have f2 : ¬ bt = c := fun e => by rw [← e, e2] at hc; cases hc
    simp only [push_cast, simprocAttr, upd_at, f1, f2, hb, e2, q1, q2, hst, hs]
    refine ⟨fun q => ⟨?_, sub_upd hc (.refl _)⟩, fun q => ⟨?_, sub_upd hc (.refl _)⟩⟩
    ·rw [hK, if_pos (by omega)]
    ·rw [hK, if_neg (by omega)]
  ·rw [if_pos (by omega)] at hK
   simp only [push_cast, simprocAttr, g1, g2, hb]
   exact fun _ => by rw [hK]
 ·rw [if_pos (by omega)] at hK
  simp only [push_cast, simprocAttr, g1, hb]
  exact fun _ => by rw [hK]
def RdO (g : Heap) (b5 : Nat) (p vx last : AV) (l : List IOp) (vt : AV) (to : List Int) (stored : Int) (h : Heap) : Prop :=
 ∃ vo h1, Own 6 (Ab.upd g b5 ⟨[p, vo, vx, last, vt, .int .i64 stored], 0⟩) vo (l.flatMap IOp.cells) l.length h1 ∧ Own 1 h1 vt (to.map (.int .i64)) to.length h
theorem put_spec {g : Heap} {b5 : Nat} {p vx last vt : AV} {l : List IOp} {to : List Int} {stored : Int} (hr : RdO g b5 p vx last l vt to stored h) (hl : l.length + 1 ≤ 1000000000000) (o : IOp) :
  Spec Tryz.prog G 98 [.ptr b5 0, .agg o.cells] h (fun r h' => r = .int .i64 l.length ∧ RdO g b5 p vx last (l ++ [o]) vt to stored h') := by
 obtain ⟨vo, h1, o1, o2⟩ := hr
 obtain ⟨h2, o3, o4⟩ := own_swap o1 o2
 have hb := o4.get (o3.get (upd_same _ _ _))
 have hal := o4.alen
 refine Spec.walk C98ok rfl ?_
 simp only [push_cast, simprocAttr, hb]
 refine Own.app o4 (m := 1) (IOp.len _) (by omega) (by omega) fun v5 h5 o5 => ?_
 have hb5 := o5.get (o3.get (upd_same _ _ _))
 simp only [push_cast, simprocAttr, hb5, o5.one]
 have o6 := Own.upd o5 (b := b5) (x := ⟨[p, v5, vx, last, vt, .int .i64 stored], 0⟩) (.inr ⟨_, o3.get (upd_same _ _ _)⟩)
 have o7 := Own.upd o3 (b := b5) (x := ⟨[p, v5, vx, last, vt, .int .i64 stored], 0⟩) (.inr ⟨_, upd_same _ _ _⟩)
 rw [upd_upd] at o7
 obtain ⟨h8, o8, o9⟩ := own_swap o7 o6
 have hal5 := o6.alen
 simp only [push_cast, simprocAttr, hal5]
 refine ⟨?_, v5, h8, ?_, o9⟩
 ·have e : (l.length : Int) + 1 - 1 = l.length := by omega
  rw [e, wrap_i64 (by omega) (by omega)]
 ·rw [List.flatMap_append, List.length_append]
  simpa using o8
theorem RdO.upd {g : Heap} {b5 : Nat} {p vx last vt : AV} {l : List IOp} {to : List Int} {stored : Int} (hr : RdO g b5 p vx last l vt to stored h) {b : Nat} {x : Blk} (hb : h b = none) : RdO (Ab.upd g b x) b5 p vx last l vt to stored (Ab.upd h b x) := by
 obtain ⟨vo, h1, o1, o2⟩ := hr
 have n1 := o2.sub.none hb
 have n2 := o1.sub.none n1
 have hne := upd_none n2
 refine ⟨vo, _, ?_, o2.upd (.inl hb)⟩
 rw [upd_comm hne.1]
 exact o1.upd (.inl n1)
@[push_cast] theorem IOp.spp (o o' : IOp) : splice o.cells 0 o'.cells = o'.cells := rfl
theorem fop_spec {g : Heap} {b5 : Nat} {p vx last vt : AV} {l : List IOp} {to : List Int} {stored : Int} (hr : RdO g b5 p vx last l vt to stored h) (hl : l.length + 1 ≤ 1000000000000) (hst : stored < l.length) (o : IOp) (hR : renOK to o) :
  Spec Tryz.prog G 56 [.ptr b5 0, .agg o.cells] h (fun r h' => ∃ c x, g c = none ∧ c ≠ b5 ∧ r = .int .i64 (if 0 ≤ knownN l stored (ren to o) then knownN l stored (ren to o) else l.length) ∧
   RdO (Ab.upd g c x) b5 p vx last (if 0 ≤ knownN l stored (ren to o) then l else l ++ [ren to o]) vt to (if 0 ≤ knownN l stored (ren to o) then stored else if (ren to o).code = 5 then (l.length : Int) else stored) h') := by
 have hr0 := hr
 obtain ⟨vo, h1, o1, o2⟩ := hr
 have hb := o2.get (o1.get (upd_same _ _ _))
 refine Spec.walk C56ok rfl ?_
 simp only [push_cast, simprocAttr]
 intro b3 hb3
 have f3 : ¬ b5 = b3 := fun e => by rw [← e, hb] at hb3; cases hb3
 have f4 : ¬ b3 = b5 := fun e => f3 e.symm
 have hg3 : g b3 = none := by
  have := o1.sub.none (o2.sub.none hb3)
  rwa [upd_ne f4] at this
 have hu := hr0.upd (x := ⟨o.cells, 0⟩) hb3
 obtain ⟨wo, k1, u1, u2⟩ := hu
 have hub := u2.get (u1.get (upd_same _ _ _))
 refine (names_spec hub u2 o hR).to ?_
 have hcode : (ren to o).code = o.code := by unfold ren; split <;> (try split) <;> rfl
 generalize ren to o = o' at hcode ⊢
 simp only [push_cast, simprocAttr]
 have hu2 : RdO (Ab.upd g b3 ⟨o'.cells, 0⟩) b5 p vx last l vt to stored (Ab.upd h b3 ⟨o'.cells, 0⟩) := hr0.upd hb3
 obtain ⟨wo, k1, u1, u2⟩ := hu2
 have hub := u2.get (u1.get (upd_same _ _ _))
 obtain ⟨k2, u3, u4⟩ := own_swap u1 u2
 refine (known_spec hub u4 hst o').to ?_
 simp only [push_cast, simprocAttr]
 refine ⟨fun hk => ?_, fun hk => ?_⟩
 ·simp only [if_pos hk]
  exact ⟨b3, _, hg3, f4, trivial, wo, k1, u1, u2⟩
 ·simp only [if_neg hk]
  refine (put_spec ⟨wo, k1, u1, u2⟩ hl o').mono ?_
  rintro _ h6 ⟨rfl, hr6⟩
  have hr7 := hr6
  obtain ⟨xo, j1, x1, x2⟩ := hr6
  have hb5 := x2.get (x1.get (upd_same _ _ _))
  have hb6 := x2.get (x1.get (b := b3) (by rw [upd_ne f4]; exact upd_same _ _ _))
  simp only [push_cast, simprocAttr, hb5, hb6]
  refine ⟨fun h5 => ?_, fun h5 => ?_⟩
  ·rw [if_pos h5]
   have y1 := Own.upd x1 (b := b5) (x := ⟨[p, xo, vx, last, vt, .int .i64 (l.length : Int)], 0⟩) (.inr ⟨_, upd_same _ _ _⟩)
   rw [upd_upd] at y1
   exact ⟨b3, _, hg3, f4, xo, _, y1, x2.upd (.inr ⟨_, x1.get (upd_same _ _ _)⟩)⟩
  ·rw [if_neg h5]
   exact ⟨b3, _, hg3, f4, hr7⟩
end Go.Ab
end
section
namespace Go.Ab
open Go.Proofs
variable {G : Glo} {h : Heap}
def exOK (to : List Int) (e : IEx) : Prop := (e.to = -1 ∨ 0 ≤ e.to ∧ e.to < to.length) ∧ ∀ v ∈ e.map, 0 ≤ v.val ∧ v.val < to.length
def renK (to : List Int) (m : List IVl) (k : Nat) : List IVl := (m.take k).map (renV to) ++ m.drop k
theorem renK_len (to m k) : (renK to m k).length = m.length := by simp [renK]; omega
theorem renK_get {to : List Int} {m : List IVl} {k : Nat} (hk : k < m.length) : (renK to m k).getD k IVl.zero = m.getD k IVl.zero := by
 have h1 : ((m.take k).map (renV to)).length = k := by simp; omega
 rw [renK, List.getD_eq_getElem?_getD, List.getElem?_append_right (by omega), h1, Nat.sub_self]
 simp [hk]
theorem renK_set {to : List Int} {m : List IVl} {k : Nat} (hk : k < m.length) : (renK to m k).set k (renV to (m.getD k IVl.zero)) = renK to m (k + 1) := by
 have h1 : ((m.take k).map (renV to)).length = k := by simp; omega
 rw [renK, renK, List.set_append_right _ _ (by omega), h1, Nat.sub_self, List.drop_eq_getElem_cons hk, List.set_cons_zero, List.take_add_one, List.map_append]
 simp [hk]
theorem vls_set1 (m : List IVl) : ∀ (k : Nat) (x : Int), k < m.length → (m.flatMap IVl.cells).set (k * 2 + 1) (.int .i64 x) = (m.set k { m.getD k IVl.zero with val := x }).flatMap IVl.cells := by
 induction m with
 | nil => intro k x h; simp at h
 | cons v m ih =>
  intro k x hk
  cases k with
  | zero => rfl
  | succ k =>
   simp only [List.flatMap_cons, List.set_cons_succ]
   rw [List.set_append_right _ _ (by rw [IVl.len]; omega)]
   have : (k + 1) * 2 + 1 - v.cells.length = k * 2 + 1 := by rw [IVl.len]; omega
   rw [this, ih k x (by simpa using hk)]
   rfl
theorem exit2_loop {h1 : Heap} {b5 br k : Nat} {p vo last st vx : AV} {pre ws : List AV} {sp : Nat} {es : List IEx} {e : IEx} {to : List Int} {Q : Exit → Env → Heap → Prop} {mss : List (List AV × Nat)} (hb5 : h1 b5 = some ⟨[p, vo, vx, last, .ro (to.map (.int .i64)) to.length, st], 0⟩)
  (hbr : h1 br = some ⟨pre ++ rowOf es ws, sp⟩) (g4 : (pre ++ rowOf es ws)[pre.length + k * 5 + 4]? = some (ws.getD k .nils)) (hwl : k < ws.length) (hml : k < mss.length)
  (r : Rows 2 h1 ws (mss.set k (mp e)) h) (hok : ∀ v ∈ e.map, 0 ≤ v.val ∧ v.val < to.length) (hl : e.map.length ≤ 1000000000000)
  (hq : ∀ ρ h', Rows 2 h1 ws (mss.set k (mp { e with map := e.map.map (renV to) })) h' → Q (.exit 0) ρ h') :
  lpc Tryz.prog G Tryz.f57.ntmps C57_14 Q [(0, .ptr b5 0), (1, .ptr br (pre.length + k * 5)), (27, .int .i64 (e.map.length : Int)), (28, .int .i64 0)] h := by
 refine lpc.rel [0, 1, 27, 28] (fun m ρ h' => ∃ i : Nat, m = e.map.length - i ∧ i ≤ e.map.length ∧ Rows 2 h1 ws (mss.set k (mp { e with map := renK to e.map i })) h' ∧
  ρ = [(0, .ptr b5 0), (1, .ptr br (pre.length + k * 5)), (27, .int .i64 (e.map.length : Int)), (28, .int .i64 (i : Int))]) ⟨_, 0, rfl, by omega, r, rfl⟩ ?_
 rintro m _ h2 ⟨i, rfl, hi, hr, rfl⟩
 have hbr' := hr.sub br _ hbr
 have hb5' := hr.sub b5 _ hb5
 by_cases hi2 : i < e.map.length
 ·have hren : (mp { e with map := renK to e.map i }).2 = e.map.length := renK_len _ _ _
  obtain ⟨bm, pm, cm, sm, f1, f2, f3, f4⟩ := hr.lie k (ws.getD k .nils) ((renK to e.map i).flatMap IVl.cells) (renK to e.map i).length (by simp [hwl]) (by simp [hml, mp]) (by rw [renK_len]; omega)
  have hgi := renK_get (to := to) hi2
  have hgs := renK_set (to := to) hi2
  have hok2 : 0 ≤ (e.map.getD i IVl.zero).val ∧ (e.map.getD i IVl.zero).val < to.length := hok _ (by rw [List.getD_eq_getElem?_getD, List.getElem?_eq_getElem hi2]; simp)
  have hvs := vls_set1 (renK to e.map i) i
  rw [renK_len, hgi] at hvs
  have hrl := renK_len to e.map i
  generalize e.map.getD i IVl.zero = v at hgi hgs hok2 hvs
  obtain ⟨q1, q2⟩ := hok2
  have q3 : v.val.toNat < to.length := by omega
  have hpm : (pm ++ (renK to e.map i).flatMap IVl.cells)[pm.length + i * 2 + 1]? = some (.int .i64 v.val) := by
   rw [Nat.add_assoc, List.getElem?_append_right (by omega), Nat.add_sub_cancel_left, vls_1, hrl, if_pos hi2, hgi]
  rw [f1] at g4
  have f4' := f4 (((renK to e.map i).flatMap IVl.cells).set (i * 2 + 1) (.int .i64 (to.getD v.val.toNat 0))) (by simp)
  have hset : (pm ++ (renK to e.map i).flatMap IVl.cells).set (pm.length + i * 2 + 1) (.int .i64 (to.getD v.val.toNat 0)) = pm ++ (((renK to e.map i).flatMap IVl.cells).set (i * 2 + 1) (.int .i64 (to.getD v.val.toNat 0))) := by
   rw [Nat.add_assoc, List.set_append_right _ _ (by omega), Nat.add_sub_cancel_left]
  have hlp : (pm ++ (renK to e.map i).flatMap IVl.cells).length = pm.length + e.map.length * 2 := by
   rw [List.length_append, flat_len IVl.cells 2 _ (fun x _ => IVl.len x), hrl]
  simp (disch := omega) only [push_cast, simprocAttr, wrap_i64, toNat_ofInt64, Nat.min_eq_left, Int.toNat_of_nonneg, hb5', hbr', g4, f2, hrl, hpm, q1, q2, q3, hset, hlp, hi2]
  refine ⟨by omega, _, _, by omega, .refl _, i + 1, rfl, by omega, ?_, rfl⟩
  have hvs' := hvs (to.getD v.val.toNat 0) hi2
  have hx : ({ v with val := to.getD v.val.toNat 0 } : IVl) = renV to v := rfl
  rw [hx, hgs] at hvs'
  rw [List.set_set, hvs'] at f4'
  rw [hvs']
  have hm : mp { e with map := renK to e.map (i + 1) } = ((renK to e.map (i + 1)).flatMap IVl.cells, (renK to e.map i).length) := by rw [mp, renK_len, renK_len]
  rw [hm]
  exact f4'
 ·obtain rfl : i = e.map.length := by omega
  simp only [push_cast, simprocAttr, hi2]
  refine hq _ _ ?_
  have : renK to e.map e.map.length = e.map.map (renV to) := by simp [renK]
  rw [this] at hr
  exact hr
theorem rowOf_map (es : List IEx) : ∀ (ws : List AV) (k : Nat) (e : IEx) (m : List IVl), rowOf (es.set k { e with map := m }) ws = rowOf (es.set k e) ws := by
 induction es with
 | nil => intro ws k e m; rfl
 | cons a es ih =>
  intro ws k e m
  match ws with
  | [] => cases k <;> rfl
  | w :: ws =>
   cases k with
   | zero => rfl
   | succ k => simp only [List.set_cons_succ, rowOf, ih]
theorem set_self {α : Type} (l : List α) (k : Nat) (d : α) : l.set k (l.getD k d) = l := by
 apply List.ext_getElem
 ·simp
 ·intro i h1 h2
  rw [List.getElem_set]
  split
  ·rename_i e; subst e; simp [h2]
  ·rfl
theorem exit2_spec {g : Heap} {b5 br off n cap k : Nat} {p vo last : AV} {st : AV} {es : List IEx} {to : List Int} (hb : g b5 = some ⟨[p, vo, .sl br off n cap, last, .ro (to.map (.int .i64)) to.length, st], 0⟩)
  (hx : ExO g (.sl br off n cap) es h) (hn : n = es.length) (hk : k < es.length) (hok : exOK to (es.getD k IEx.zero)) (hl : (es.getD k IEx.zero).map.length ≤ 1000000000000) :
  Spec Tryz.prog G 57 [.ptr b5 0, .ptr br (off + k * 5)] h (fun _ h' => ExO g (.sl br off n cap) (es.set k (renE to (es.getD k IEx.zero))) h') := by
 subst hn
 obtain ⟨h1, ws, o, r⟩ := hx
 have hwl : ws.length = es.length := by have := r.len; simpa using this
 obtain ⟨br', pre, cap', sp, hv, e2, e3, e4⟩ := own_lie o (by omega)
 simp only [AV.sl.injEq] at hv
 obtain ⟨rfl, rfl, _, rfl⟩ := hv
 have hbr := r.sub br _ e2
 have hb5 := r.sub b5 _ (o.get hb)
 have g2 : (pre ++ rowOf es ws)[pre.length + k * 5 + 2]? = some (.int .i64 (es.getD k IEx.zero).to) := by
  rw [Nat.add_assoc, List.getElem?_append_right (by omega), Nat.add_sub_cancel_left, rowOf_get _ _ _ _ hwl hk (by omega)]; rfl
 have g4 : (pre ++ rowOf es ws)[pre.length + k * 5 + 4]? = some (ws.getD k .nils) := by
  rw [Nat.add_assoc, List.getElem?_append_right (by omega), Nat.add_sub_cancel_left, rowOf_get _ _ _ _ hwl hk (by omega)]; rfl
 have hlr := rowOf_len es ws hwl
 have hll : (pre ++ rowOf es ws).length = pre.length + es.length * 5 := by rw [List.length_append, hlr]
 have hal : alen (ws.getD k .nils) = some (es.getD k IEx.zero).map.length := by
  exact r.alen k _ (mp (es.getD k IEx.zero)).1 _ (by simp [hwl, hk]) (by simp [hk, mp])
 generalize hE : es.getD k IEx.zero = e at *
 obtain ⟨ok1, ok2⟩ := hok
 by_cases ht : e.to = -1
 ·refine Spec.walk C57ok rfl ?_
  simp only [push_cast, simprocAttr, hb5, hbr, g2, g4, hal, ht]
  refine exit2_loop (o.get hb) e2 g4 (by omega) (by simp; omega) (mss := es.map mp) ?_ ok2 hl fun ρ h' hr => ?_
  ·have : (es.map mp).set k (mp e) = es.map mp := by rw [← List.map_set, ← hE, set_self]
   rw [this]; exact r
  ·simp only [push_cast, simprocAttr]
   have hre : renE to e = { e with map := e.map.map (renV to) } := by
    unfold renE; rw [if_pos ht]
    obtain ⟨e1, e2, e3, e4, e5⟩ := e
    simp only at ht
    subst ht
    rfl
   rw [hre]
   refine ⟨h1, ws, ?_, ?_⟩
   ·rw [rowOf_map, ← hE, set_self, List.length_set]; exact o
   ·rw [List.map_set]; exact hr
 ·have q : 0 ≤ e.to ∧ e.to < to.length := by omega
  have q2 : e.to.toNat < to.length := by omega
  have hset : ∀ x, (pre ++ rowOf es ws).set (pre.length + k * 5 + 2) (.int .i64 x) = pre ++ rowOf (es.set k { e with to := x }) ws := by
   intro x
   rw [Nat.add_assoc, List.set_append_right _ _ (by omega), Nat.add_sub_cancel_left, rowOf_set2 _ _ _ _ hwl hk, hE]
  refine Spec.walk C57ok rfl ?_
  have hwl' : ws.length = (es.set k { e with to := to.getD e.to.toNat 0 }).length := by simp [hwl]
  have g4' : (pre ++ rowOf (es.set k { e with to := to.getD e.to.toNat 0 }) ws)[pre.length + k * 5 + 4]? = some (ws.getD k .nils) := by
   rw [Nat.add_assoc, List.getElem?_append_right (by omega), Nat.add_sub_cancel_left, rowOf_get _ _ _ _ hwl' (by simpa using hk) (by omega)]; rfl
  simp (disch := omega) only [push_cast, simprocAttr, wrap_i64, toNat_ofInt64, Nat.min_eq_left, Int.toNat_of_nonneg, hb5, hbr, g2, g4, g4', hal, ht, q.1, q.2, q2, hset, hll]
  refine ⟨by omega, ?_⟩
  have hne : ¬ b5 = br := fun e => by rw [← e, hb] at e3; cases e3
  refine exit2_loop (h1 := Ab.upd h1 br ⟨pre ++ rowOf (es.set k { e with to := to.getD e.to.toNat 0 }) ws, sp⟩) (e := { e with to := to.getD e.to.toNat 0 }) (by rw [upd_ne hne]; exact o.get hb) (upd_same _ _ _) g4' (by omega) (by simp; omega) (mss := es.map mp) ?_ ok2 hl fun ρ h' hr => ?_
  ·have : (es.map mp).set k (mp { e with to := to.getD e.to.toNat 0 }) = es.map mp := by
    show (es.map mp).set k (mp e) = es.map mp
    rw [← List.map_set, ← hE, set_self]
   rw [this]; exact r.upd (.inr ⟨_, e2⟩)
  ·simp only [push_cast, simprocAttr]
   have hre : renE to e = { ({ e with to := to.getD e.to.toNat 0 } : IEx) with map := e.map.map (renV to) } := by
    unfold renE; rw [if_neg ht]
   rw [hre]
   refine ⟨Ab.upd h1 br ⟨pre ++ rowOf (es.set k { e with to := to.getD e.to.toNat 0 }) ws, sp⟩, ws, ?_, ?_⟩
   ·rw [rowOf_map _ _ _ { e with to := to.getD e.to.toNat 0 } (e.map.map (renV to)), List.length_set]
    exact e4 _ (by rw [rowOf_len _ _ hwl', hlr, List.length_set])
   ·rw [List.map_set]; exact hr
end Go.Ab
end
section
namespace Go.Ab
open Go.Proofs
variable {G : Glo} {h : Heap}
theorem fwd_succ (l : List IOp) (k : Nat) (hk : k < l.length) : fwd (l.take (k + 1)) = (fwd (l.take k)).step (l.getD k IOp.zero) := by
 rw [fwd, List.take_add_one, List.foldl_append, ← fwd]
 simp [hk]
theorem fw_to (l : List IOp) : ∀ f : Fw, (l.foldl Fw.step f).to.length = f.to.length + l.length := by
 induction l with
 | nil => intro f; rfl
 | cons o l ih =>
  intro f
  rw [List.foldl_cons, ih]
  have : (f.step o).to.length = f.to.length + 1 := by unfold Fw.step; simp only; split <;> simp
  rw [this, List.length_cons]; omega
theorem fw_l (l : List IOp) : ∀ f : Fw, (l.foldl Fw.step f).l.length ≤ f.l.length + l.length := by
 induction l with
 | nil => intro f; exact Nat.le_refl _
 | cons o l ih =>
  intro f
  rw [List.foldl_cons]
  have := ih (f.step o)
  have : (f.step o).l.length ≤ f.l.length + 1 := by unfold Fw.step; simp only; split <;> simp
  rw [List.length_cons]; omega
theorem fw_st (l : List IOp) : ∀ f : Fw, f.stored < f.l.length → (l.foldl Fw.step f).stored < (l.foldl Fw.step f).l.length := by
 induction l with
 | nil => intro f hf; exact hf
 | cons o l ih =>
  intro f hf
  rw [List.foldl_cons]
  refine ih _ ?_
  unfold Fw.step
  simp only
  split
  ·exact hf
  ·simp only [List.length_append, List.length_cons, List.length_nil]
   split <;> omega
theorem fwd_to (l : List IOp) : (fwd l).to.length = l.length := by rw [fwd, fw_to]; simp [Fw.init]
theorem fwd_l (l : List IOp) : (fwd l).l.length ≤ l.length := by have := fw_l l Fw.init; rw [show Fw.init.l.length = 0 from rfl, Nat.zero_add] at this; exact this
theorem fwd_st (l : List IOp) : (fwd l).stored < (fwd l).l.length := fw_st l Fw.init (by simp [Fw.init])
theorem val_iff {b : IBk} {n ahead : Int} (h : b.val n ahead = true) : 0 ≤ n ∧ n < ahead ∧ n < b.ops.length := by
 simp only [IBk.val, Bool.and_eq_true, decide_eq_true_eq] at h
 omega
theorem right_parts {b : IBk} (hc : b.check = 0) : (∀ i, i < b.ops.length → b.opR i = true) ∧ (∀ i, i < b.exits.length → b.leaves i = true) := by
 have hr : b.right = true := by
  unfold IBk.check at hc
  split at hc
  ·cases hc
  ·split at hc
   ·assumption
   ·cases hc
 simp only [IBk.right, Bool.and_eq_true] at hr
 exact ⟨allN_get hr.1.1.1.1, allN_get hr.1.1.1.2⟩
theorem renOK_of {b : IBk} {k : Nat} (hk : b.opR k = true) {to : List Int} (ht : to.length = k) : renOK to (b.ops.getD k IOp.zero) := by
 rw [opR_eq b k rfl] at hk
 generalize b.ops.getD k IOp.zero = o at hk
 have hv : ∀ n, b.val n (k : Nat) = true → 0 ≤ n ∧ n < to.length := fun n h => by have := val_iff h; omega
 constructor
 ·rintro (h | h | h)
  ·rw [if_neg (by omega), if_neg (by omega), if_pos h] at hk
   simp only [Bool.and_eq_true] at hk
   exact ⟨hv _ hk.1.2, hv _ hk.2⟩
  ·rw [if_neg (by omega), if_neg (by omega), if_neg (by omega), if_neg (by omega), if_pos h] at hk
   simp only [Bool.and_eq_true] at hk
   exact ⟨hv _ hk.1.1.1.2, hv _ hk.1.1.2⟩
  ·rw [if_neg (by omega), if_neg (by omega), if_neg (by omega), if_neg (by omega), if_neg (by omega), if_pos h] at hk
   simp only [Bool.and_eq_true] at hk
   exact ⟨hv _ hk.1.1.2, hv _ hk.1.2⟩
 ·intro h
  rw [if_neg (by omega), if_neg (by omega), if_neg (by omega), if_pos h] at hk
  simp only [Bool.and_eq_true] at hk
  exact hv _ hk.1.2
theorem exOK_of {b : IBk} {k : Nat} (hk : b.leaves k = true) {to : List Int} (ht : to.length = b.ops.length) : exOK to (b.exits.getD k IEx.zero) := by
 rw [leaves_eq, headN] at hk
 simp only [Bool.and_eq_true] at hk
 have h1 := hk.1.1.1.1.1.1
 simp only [IBk.exit, Bool.and_eq_true, Bool.or_eq_true, decide_eq_true_eq, Int.toNat_natCast] at h1
 obtain ⟨⟨⟨_, _⟩, q1⟩, q2⟩ := h1
 have he : b.ex k = b.exits.getD k IEx.zero := rfl
 rw [he] at q1 q2
 generalize b.exits.getD k IEx.zero = e at q1 q2
 constructor
 ·rcases q1 with q | q
  ·exact .inl q
  ·have := val_iff q; exact .inr (by omega)
 ·intro v hv
  obtain ⟨i, hi, rfl⟩ := List.getElem_of_mem hv
  have := val_iff (allN_get q2 i hi)
  have e2 : e.vl i = e.map[i] := by simp [IEx.vl, hi]
  rw [e2] at this
  omega
end Go.Ab
end
section
namespace Go.Ab
def valued (o : IOp) : Prop := 1 ≤ o.code ∧ o.code ≤ 4
def vin (l : List IOp) (j : Nat) (n : Int) : Prop := 0 ≤ n ∧ n < j ∧ n < l.length ∧ valued (l.getD n.toNat IOp.zero)
def goodAt (l : List IOp) (j : Nat) (o : IOp) : Prop := (o.code = 3 ∨ o.code = 5 ∨ o.code = 6 → vin l j o.a ∧ vin l j o.b) ∧ (o.code = 4 → vin l j o.a)
def upto (n : Nat) : List Int := (List.range n).map (fun i : Nat => (i : Int))
theorem upto_get {n i : Nat} (h : i < n) : (upto n).getD i 0 = (i : Int) := by simp [upto, h]
theorem upto_succ (n : Nat) : upto (n + 1) = upto n ++ [(n : Int)] := by simp [upto, List.range_succ]
theorem getD_lt {α : Type} {l m : List α} {i : Nat} {d : α} (h : i < l.length) : (l ++ m).getD i d = l.getD i d := by
 rw [List.getD_eq_getElem?_getD, List.getElem?_append_left h, ← List.getD_eq_getElem?_getD]
theorem getD_eq {α : Type} {l : List α} {x d : α} {i : Nat} (h : i = l.length) : (l ++ [x]).getD i d = x := by
 rw [List.getD_eq_getElem?_getD, List.getElem?_append_right (by omega), h, Nat.sub_self]; rfl
structure FwI (l0 : List IOp) (k : Nat) (f : Fw) : Prop where
 to : f.to.length = k
 st : f.stored < f.l.length
 vals : ∀ i, i < k → valued (l0.getD i IOp.zero) → vin f.l f.l.length (f.to.getD i 0)
 good : ∀ j, j < f.l.length → goodAt f.l j (f.l.getD j IOp.zero)
 stc : 0 ≤ f.stored → (f.l.getD f.stored.toNat IOp.zero).code = 5
 again : fwd f.l = ⟨f.l, upto f.l.length, f.stored⟩
theorem val_vin {b : IBk} {n : Int} {j : Nat} (h : b.val n j = true) : vin b.ops j n := by
 simp only [IBk.val, IBk.op, Bool.and_eq_true, decide_eq_true_eq] at h
 obtain ⟨⟨⟨⟨h1, h2⟩, h3⟩, h4⟩, h5⟩ := h
 exact ⟨h1, h2, h3, by simpa using h4, by simpa using h5⟩
theorem ren_code (to : List Int) (o : IOp) : (ren to o).code = o.code := by unfold ren; split <;> (try split) <;> rfl
theorem good_of {b : IBk} {k : Nat} (hk : b.opR k = true) : goodAt b.ops k (b.ops.getD k IOp.zero) := by
 rw [opR_eq b k rfl] at hk
 generalize b.ops.getD k IOp.zero = o at hk
 constructor
 ·rintro (h | h | h)
  ·rw [if_neg (by omega), if_neg (by omega), if_pos h] at hk
   simp only [Bool.and_eq_true] at hk
   exact ⟨val_vin hk.1.2, val_vin hk.2⟩
  ·rw [if_neg (by omega), if_neg (by omega), if_neg (by omega), if_neg (by omega), if_pos h] at hk
   simp only [Bool.and_eq_true] at hk
   exact ⟨val_vin hk.1.1.1.2, val_vin hk.1.1.2⟩
  ·rw [if_neg (by omega), if_neg (by omega), if_neg (by omega), if_neg (by omega), if_neg (by omega), if_pos h] at hk
   simp only [Bool.and_eq_true] at hk
   exact ⟨val_vin hk.1.1.2, val_vin hk.1.2⟩
 ·intro h
  rw [if_neg (by omega), if_neg (by omega), if_neg (by omega), if_pos h] at hk
  simp only [Bool.and_eq_true] at hk
  exact val_vin hk.1.2
theorem vin_app {l : List IOp} {j : Nat} {n : Int} {o : IOp} (h : vin l j n) {j' : Nat} (hj : j ≤ j') : vin (l ++ [o]) j' n := by
 obtain ⟨h1, h2, h3, h4⟩ := h
 have hn : n.toNat < l.length := by omega
 refine ⟨h1, by omega, by simp; omega, ?_⟩
 rw [List.getD_eq_getElem?_getD, List.getElem?_append_left hn, ← List.getD_eq_getElem?_getD]
 exact h4
theorem goodAt_app {l : List IOp} {j : Nat} {o p : IOp} (h : goodAt l j o) : goodAt (l ++ [p]) j o :=
 ⟨fun c => ⟨vin_app (h.1 c).1 (Nat.le_refl _), vin_app (h.1 c).2 (Nat.le_refl _)⟩, fun c => vin_app (h.2 c) (Nat.le_refl _)⟩
theorem ren_good {l0 : List IOp} {k : Nat} {f : Fw} (hi : FwI l0 k f) {o : IOp} (ho : goodAt l0 k o) : goodAt f.l f.l.length (ren f.to o) := by
 have key : ∀ n, vin l0 k n → vin f.l f.l.length (f.to.getD n.toNat 0) := fun n ⟨h1, h2, _, h4⟩ => hi.vals n.toNat (by omega) h4
 constructor
 ·intro c
  rw [ren_code] at c
  unfold ren
  rw [if_pos c]
  exact ⟨key _ (ho.1 c).1, key _ (ho.1 c).2⟩
 ·intro c
  rw [ren_code] at c
  unfold ren
  rw [if_neg (by omega), if_pos c]
  exact key _ (ho.2 c)
theorem ren_upto {l : List IOp} {o : IOp} (ho : goodAt l l.length o) : ren (upto l.length) o = o := by
 have key : ∀ n, vin l l.length n → (upto l.length).getD n.toNat 0 = n := fun n ⟨h1, h2, _, _⟩ => by rw [upto_get (by omega)]; omega
 unfold ren
 split
 ·rename_i c
  rw [key _ (ho.1 c).1, key _ (ho.1 c).2]
 ·split
  ·rename_i c
   rw [key _ (ho.2 c)]
  ·rfl
theorem known_vin {l0 : List IOp} {k : Nat} {f : Fw} (hi : FwI l0 k f) {o : IOp} (h : 0 ≤ knownN f.l f.stored o) : vin f.l f.l.length (knownN f.l f.stored o) := by
 unfold knownN at h ⊢
 by_cases h1 : o.code ≠ 4 ∨ o.imm.toNat ≠ 13 ∨ f.stored < 0
 ·rw [if_pos h1] at h; omega
 ·rw [if_neg h1] at h ⊢
  simp only at h ⊢
  split at h
  ·omega
  ·rename_i h2
   rw [if_neg h2]
   have hst := hi.st
   have hg := hi.good f.stored.toNat (by omega)
   have hc := hi.stc (by omega)
   obtain ⟨q1, q2, q3, q4⟩ := (hg.1 (.inr (.inl hc))).2
   exact ⟨q1, by omega, q3, q4⟩
theorem FwI.step {l0 : List IOp} {k : Nat} {f : Fw} (hi : FwI l0 k f) (ho : goodAt l0 k (l0.getD k IOp.zero)) : FwI l0 (k + 1) (f.step (l0.getD k IOp.zero)) := by
 have hr := ren_good hi ho
 have hcode := ren_code f.to (l0.getD k IOp.zero)
 unfold Fw.step
 simp only
 split
 ·rename_i hk
  have hv := known_vin hi hk
  refine ⟨by simp [hi.to], hi.st, fun i hik hvi => ?_, hi.good, hi.stc, hi.again⟩
  simp only
  by_cases e : i = k
  ·rw [getD_eq (by rw [e, hi.to])]
   exact hv
  ·rw [getD_lt (by rw [hi.to]; omega)]
   exact hi.vals i (by omega) hvi
 ·rename_i hk
  generalize ren f.to (l0.getD k IOp.zero) = o at *
  have hst := hi.st
  refine ⟨by simp [hi.to], ?_, fun i hik hvi => ?_, fun j hj => ?_, fun h0 => ?_, ?_⟩
  ·simp only [List.length_append, List.length_cons, List.length_nil]
   split <;> omega
  ·simp only
   by_cases e : i = k
   ·rw [e] at hvi
    rw [getD_eq (by rw [e, hi.to])]
    refine ⟨by omega, by simp; omega, by simp; omega, ?_⟩
    rw [getD_eq (by simp)]
    unfold valued at hvi ⊢
    rw [hcode]; exact hvi
   ·rw [getD_lt (by rw [hi.to]; omega)]
    exact vin_app (hi.vals i (by omega) hvi) (by simp)
  ·simp only [List.length_append, List.length_cons, List.length_nil] at hj
   simp only
   by_cases e : j = f.l.length
   ·rw [getD_eq e, e]
    exact goodAt_app hr
   ·rw [getD_lt (by omega)]
    exact goodAt_app (hi.good j (by omega))
  ·by_cases c : o.code = 5
   ·simp only [if_pos c] at h0 ⊢
    rw [getD_eq (by simp)]
    exact c
   ·simp only [if_neg c] at h0 ⊢
    rw [getD_lt (by omega)]
    exact hi.stc h0
  ·have : fwd (f.l ++ [o]) = (fwd f.l).step o := by rw [fwd, List.foldl_append]; rfl
   simp only
   rw [this, hi.again]
   unfold Fw.step
   simp only [ren_upto hr]
   rw [if_neg hk]
   simp [upto_succ]
end Go.Ab
end
section
namespace Go.Ab
end Go.Ab
end
section
namespace Go.Ab
theorem vin_val {b : IBk} {n : Int} {j : Nat} (h : vin b.ops j n) : b.val n j = true := by
 obtain ⟨h1, h2, h3, h4, h5⟩ := h
 simp only [IBk.val, IBk.op, Bool.and_eq_true]
 exact ⟨⟨⟨⟨decide_eq_true h1, decide_eq_true h2⟩, decide_eq_true h3⟩, decide_eq_true h4⟩, decide_eq_true h5⟩
theorem vin_pre {l s : List IOp} {j : Nat} {n : Int} (h : vin l j n) : vin (l ++ s) j n := by
 obtain ⟨h1, h2, h3, h4⟩ := h
 exact ⟨h1, h2, by simp; omega, by rw [getD_lt (by omega)]; exact h4⟩
end Go.Ab
end
section
namespace Go.Ab
abbrev Rw := List IOp → IOp → Int × IOp
structure Ps where
 l : List IOp
 to : List Int
def Ps.step (f : Rw) (s : Ps) (o0 : IOp) : Ps :=
 if 0 ≤ (f s.l (ren s.to o0)).1 then ⟨s.l, s.to ++ [(f s.l (ren s.to o0)).1]⟩ else ⟨s.l ++ [(f s.l (ren s.to o0)).2], s.to ++ [(s.l.length : Int)]⟩
def psN (f : Rw) (ops : List IOp) : Ps := ops.foldl (Ps.step f) ⟨[], []⟩
def IBk.ps (f : Rw) (b : IBk) : IBk := ⟨b.pcs, (psN f b.ops).l, b.exits.map (renE (psN f b.ops).to), b.last⟩
def goodL (l : List IOp) : Prop := ∀ j, j < l.length → goodAt l j (l.getD j IOp.zero)
def IOp.num (w : BitVec 32) : IOp := ⟨2, 0, 0, w, 0, 0⟩
structure RwOk (f : Rw) : Prop where
 drop : ∀ l o, goodL l → goodAt l l.length o → 0 ≤ (f l o).1 → valued o → vin l l.length (f l o).1
 put : ∀ l o, (f l o).1 < 0 → (f l o).2 = o ∨ (o.code = 3 ∧ ∃ w, (f l o).2 = IOp.num w)
theorem RwOk.code {f : Rw} (hf : RwOk f) {l : List IOp} {o : IOp} (h : (f l o).1 < 0) : (valued o → valued (f l o).2) := by
 intro hv
 rcases hf.put l o h with e | ⟨e, w, e2⟩
 ·rw [e]; exact hv
 ·rw [e2]; exact ⟨by simp [IOp.num], by simp [IOp.num]⟩
theorem RwOk.good {f : Rw} (hf : RwOk f) {l : List IOp} {o : IOp} (h : (f l o).1 < 0) {j : Nat} (hg : goodAt l j o) : goodAt l j (f l o).2 := by
 rcases hf.put l o h with e | ⟨e, w, e2⟩
 ·rw [e]; exact hg
 ·rw [e2]; exact ⟨fun c => by simp [IOp.num] at c, fun c => by simp [IOp.num] at c⟩
theorem psN_succ (f : Rw) (l : List IOp) (k : Nat) (hk : k < l.length) : psN f (l.take (k + 1)) = (psN f (l.take k)).step f (l.getD k IOp.zero) := by
 rw [psN, psN, List.take_succ_eq_append_getElem hk, List.foldl_append]
 simp [hk]
theorem ps_step_len (f : Rw) (s : Ps) (o : IOp) : (s.step f o).to.length = s.to.length + 1 ∧ s.l.length ≤ (s.step f o).l.length ∧ (s.step f o).l.length ≤ s.l.length + 1 := by
 unfold Ps.step
 split <;> simp
theorem ps_len (f : Rw) (l : List IOp) : ∀ s : Ps, (l.foldl (Ps.step f) s).to.length = s.to.length + l.length ∧ (l.foldl (Ps.step f) s).l.length ≤ s.l.length + l.length := by
 induction l with
 | nil => intro s; simp
 | cons o r ih =>
  intro s
  rw [List.foldl_cons]
  obtain ⟨h1, h2⟩ := ih (s.step f o)
  obtain ⟨q1, q2, q3⟩ := ps_step_len f s o
  rw [List.length_cons]
  omega
theorem psN_to (f : Rw) (l : List IOp) : (psN f l).to.length = l.length := by rw [psN, (ps_len f l _).1]; simp
theorem psN_l (f : Rw) (l : List IOp) : (psN f l).l.length ≤ l.length := by have := (ps_len f l ⟨[], []⟩).2; simpa [psN] using this
structure PsI (l0 : List IOp) (k : Nat) (s : Ps) : Prop where
 to : s.to.length = k
 vals : ∀ i, i < k → valued (l0.getD i IOp.zero) → vin s.l s.l.length (s.to.getD i 0)
 good : goodL s.l
theorem psren_good {l0 : List IOp} {k : Nat} {s : Ps} (hi : PsI l0 k s) {o : IOp} (ho : goodAt l0 k o) : goodAt s.l s.l.length (ren s.to o) := by
 have key : ∀ n, vin l0 k n → vin s.l s.l.length (s.to.getD n.toNat 0) := fun n ⟨h1, h2, _, h4⟩ => hi.vals n.toNat (by omega) h4
 constructor
 ·intro c
  rw [ren_code] at c
  unfold ren
  rw [if_pos c]
  exact ⟨key _ (ho.1 c).1, key _ (ho.1 c).2⟩
 ·intro c
  rw [ren_code] at c
  unfold ren
  rw [if_neg (by omega), if_pos c]
  exact key _ (ho.2 c)
theorem PsI.step {f : Rw} (hf : RwOk f) {l0 : List IOp} {k : Nat} {s : Ps} (hi : PsI l0 k s) (ho : goodAt l0 k (l0.getD k IOp.zero)) : PsI l0 (k + 1) (s.step f (l0.getD k IOp.zero)) := by
 have hr := psren_good hi ho
 have hcode := ren_code s.to (l0.getD k IOp.zero)
 unfold Ps.step
 split
 ·rename_i hk
  refine ⟨by simp [hi.to], fun i hik hvi => ?_, hi.good⟩
  simp only
  by_cases e : i = k
  ·rw [getD_eq (by rw [e, hi.to])]
   rw [e] at hvi
   refine hf.drop _ _ hi.good hr hk ?_
   unfold valued at hvi ⊢
   rw [hcode]; exact hvi
  ·rw [getD_lt (by rw [hi.to]; omega)]
   exact hi.vals i (by omega) hvi
 ·rename_i hk
  have hk' : (f s.l (ren s.to (l0.getD k IOp.zero))).1 < 0 := by omega
  have hcd := hf.code hk'
  have hgd := hf.good hk' hr
  generalize (f s.l (ren s.to (l0.getD k IOp.zero))).2 = o' at *
  generalize ren s.to (l0.getD k IOp.zero) = o at *
  refine ⟨by simp [hi.to], fun i hik hvi => ?_, fun j hj => ?_⟩
  ·simp only
   by_cases e : i = k
   ·rw [e] at hvi
    rw [getD_eq (by rw [e, hi.to])]
    refine ⟨by omega, by simp; omega, by simp; omega, ?_⟩
    rw [getD_eq (by simp)]
    refine hcd ?_
    unfold valued at hvi ⊢
    rw [hcode]; exact hvi
   ·rw [getD_lt (by rw [hi.to]; omega)]
    exact vin_app (hi.vals i (by omega) hvi) (by simp)
  ·simp only [List.length_append, List.length_cons, List.length_nil] at hj
   simp only
   by_cases e : j = s.l.length
   ·rw [getD_eq e, e]
    exact goodAt_app hgd
   ·rw [getD_lt (by omega)]
    exact goodAt_app (hi.good j (by omega))
theorem ps_inv {f : Rw} (hf : RwOk f) {b : IBk} (hc : b.check = 0) : ∀ k, k ≤ b.ops.length → PsI b.ops k (psN f (b.ops.take k)) := by
 intro k
 induction k with
 | zero => intro _; exact ⟨rfl, fun i h => by omega, fun j h => by simp [psN] at h⟩
 | succ k ih =>
  intro hk
  rw [psN_succ _ _ _ (by omega)]
  exact (ih (by omega)).step hf (good_of ((right_parts hc).1 k (by omega)))
theorem ps_all {f : Rw} (hf : RwOk f) {b : IBk} (hc : b.check = 0) : PsI b.ops b.ops.length (psN f b.ops) := by
 have := ps_inv hf hc b.ops.length (Nat.le_refl _)
 rwa [List.take_length] at this
theorem psstep_pre (f : Rw) (s : Ps) (o : IOp) : ∃ u t, (s.step f o).l = s.l ++ u ∧ (s.step f o).to = s.to ++ t := by
 unfold Ps.step
 split
 ·exact ⟨[], _, by simp, rfl⟩
 ·exact ⟨_, _, rfl, rfl⟩
theorem psfold_pre (f : Rw) (l : List IOp) : ∀ s : Ps, ∃ u t, (l.foldl (Ps.step f) s).l = s.l ++ u ∧ (l.foldl (Ps.step f) s).to = s.to ++ t := by
 induction l with
 | nil => intro s; exact ⟨[], [], by simp, by simp⟩
 | cons o l ih =>
  intro s
  obtain ⟨u, t, h1, h2⟩ := ih (s.step f o)
  obtain ⟨u', t', h3, h4⟩ := psstep_pre f s o
  exact ⟨u' ++ u, t' ++ t, by rw [List.foldl_cons, h1, h3, List.append_assoc], by rw [List.foldl_cons, h2, h4, List.append_assoc]⟩
theorem psN_pre (f : Rw) (l : List IOp) (k : Nat) : ∃ u t, (psN f l).l = (psN f (l.take k)).l ++ u ∧ (psN f l).to = (psN f (l.take k)).to ++ t := by
 have : psN f l = (l.drop k).foldl (Ps.step f) (psN f (l.take k)) := by
  rw [psN, psN, ← List.foldl_append, List.take_append_drop]
 rw [this]
 exact psfold_pre f _ _
theorem psN_src (f : Rw) (l : List IOp) : ∀ k, k ≤ l.length → ∀ j, j < (psN f (l.take k)).l.length → ∃ i, i < k ∧ (psN f (l.take i)).l.length = j ∧ (f (psN f (l.take i)).l (ren (psN f (l.take i)).to (l.getD i IOp.zero))).1 < 0 ∧
  (psN f (l.take k)).l.getD j IOp.zero = (f (psN f (l.take i)).l (ren (psN f (l.take i)).to (l.getD i IOp.zero))).2 := by
 intro k
 induction k with
 | zero => intro _ j hj; simp [psN] at hj
 | succ k ih =>
  intro hk j hj
  rw [psN_succ _ _ _ (by omega)] at hj ⊢
  unfold Ps.step at hj ⊢
  split at hj
  ·rename_i h
   rw [if_pos h]
   obtain ⟨i, h1, h2, h3⟩ := ih (by omega) j hj
   exact ⟨i, by omega, h2, h3⟩
  ·rename_i h
   rw [if_neg h]
   simp only [List.length_append, List.length_cons, List.length_nil] at hj
   by_cases e : j = (psN f (l.take k)).l.length
   ·exact ⟨k, by omega, e.symm, by omega, getD_eq e⟩
   ·obtain ⟨i, h1, h2, h3, h4⟩ := ih (by omega) j (by omega)
    exact ⟨i, by omega, h2, h3, by rw [getD_lt (by omega)]; exact h4⟩
theorem ps_val {f : Rw} (hf : RwOk f) {b : IBk} (hc : b.check = 0) {i : Nat} (hi : i ≤ b.ops.length) {n : Int} (h : vin b.ops i n) : vin (psN f b.ops).l (psN f (b.ops.take i)).l.length ((psN f b.ops).to.getD n.toNat 0) := by
 have hI := ps_inv hf hc i hi
 obtain ⟨s, t, e1, e2⟩ := psN_pre f b.ops i
 obtain ⟨h1, h2, h3, h4⟩ := h
 rw [e1, e2, getD_lt (by rw [hI.to]; omega)]
 exact vin_pre (hI.vals n.toNat (by omega) h4)
theorem exit_ps {f : Rw} (hf : RwOk f) {b : IBk} (hc : b.check = 0) {i : Nat} (hi : i ≤ b.ops.length) {x : Int} (h : b.exit x i = true) : (b.ps f).exit x ((psN f (b.ops.take i)).l.length : Nat) = true := by
 simp only [IBk.exit, Bool.and_eq_true, Bool.or_eq_true, decide_eq_true_eq] at h ⊢
 obtain ⟨⟨⟨h1, h2⟩, h3⟩, h4⟩ := h
 have hx : x.toNat < b.exits.length := by omega
 have he : (b.ps f).ex x.toNat = renE (psN f b.ops).to (b.ex x.toNat) := by
  simp [IBk.ex, IBk.ps, hx]
 rw [he]
 refine ⟨⟨⟨h1, by simpa [IBk.ps] using h2⟩, ?_⟩, ?_⟩
 ·rcases h3 with h3 | h3
  ·left; simp [renE, h3]
  ·right
   have hv := val_vin h3
   have hne : (b.ex x.toNat).to ≠ -1 := by have := hv.1; omega
   have := ps_val hf hc hi hv
   simp only [renE, if_neg hne]
   exact vin_val (b := b.ps f) this
 ·refine allN_true fun k hk => ?_
  have hk2 : k < (b.ex x.toNat).map.length := by simpa [renE] using hk
  have := ps_val hf hc hi (val_vin (allN_get h4 k hk2))
  have e2 : (renE (psN f b.ops).to (b.ex x.toNat)).vl k = renV (psN f b.ops).to ((b.ex x.toNat).vl k) := by simp [IEx.vl, renE, hk2]
  rw [e2]
  exact vin_val (b := b.ps f) this
theorem ps_opR {f : Rw} (hf : RwOk f) {b : IBk} (hc : b.check = 0) {j : Nat} (hj : j < (psN f b.ops).l.length) : (b.ps f).opR j = true := by
 have hI := ps_all hf hc
 have hsrc := psN_src f b.ops b.ops.length (Nat.le_refl _) j (by rw [List.take_length]; exact hj)
 rw [List.take_length] at hsrc
 obtain ⟨i, h1, h2, hneg, h3⟩ := hsrc
 rcases hf.put _ _ hneg with e | ⟨_, w, e⟩
 rotate_left
 ·rw [e] at h3
  rw [opR_eq (b.ps f) j h3]
  rfl
 rw [e] at h3
 have hr := (right_parts hc).1 i h1
 have hg := hI.good j hj
 have hex : ∀ x, b.exit x i = true → (b.ps f).exit x j = true := fun x hx => by have := exit_ps hf hc (by omega) hx; rw [h2] at this; exact this
 have hvv : ∀ n, vin (psN f b.ops).l j n → (b.ps f).val n j = true := fun n hn => vin_val (b := b.ps f) hn
 rw [opR_eq b i rfl] at hr
 rw [opR_eq (b.ps f) j (o := ren (psN f (b.ops.take i)).to (b.ops.getD i IOp.zero)) h3]
 rw [h3] at hg
 generalize b.ops.getD i IOp.zero = o at hr hg ⊢
 have hcode := ren_code (psN f (b.ops.take i)).to o
 generalize hto : (psN f (b.ops.take i)).to = to at hcode hg ⊢
 by_cases c1 : o.code = 1
 ·have : ren to o = o := by unfold ren; rw [if_neg (by omega), if_neg (by omega)]
  rw [this]; rw [if_pos c1] at hr ⊢; exact hr
 ·by_cases c2 : o.code = 2
  ·have : ren to o = o := by unfold ren; rw [if_neg (by omega), if_neg (by omega)]
   rw [this]; rw [if_neg c1, if_pos c2] at hr ⊢; exact hr
  ·by_cases c3 : o.code = 3
   ·have hg1 := hg.1 (by omega)
    have q1 := hvv _ hg1.1
    have q2 := hvv _ hg1.2
    rw [if_neg (by omega), if_neg (by omega), if_pos (by omega)] at hr ⊢
    simp only [Bool.and_eq_true] at hr ⊢
    refine ⟨⟨⟨⟨?_, ?_⟩, ?_⟩, q1⟩, q2⟩
    ·have : (ren to o).imm = o.imm := by unfold ren; rw [if_pos (by omega)]
     rw [this]; exact hr.1.1.1.1
    ·have : (ren to o).x = o.x := by unfold ren; rw [if_pos (by omega)]
     rw [this]; exact hr.1.1.1.2
    ·have : (ren to o).y = o.y := by unfold ren; rw [if_pos (by omega)]
     rw [this]; exact hr.1.1.2
   ·by_cases c4 : o.code = 4
    ·have q1 := hvv _ (hg.2 (by omega))
     have hro : ren to o = { o with a := to.getD o.a.toNat 0 } := by unfold ren; rw [if_neg (by omega), if_pos c4]
     rw [hro] at q1 ⊢
     simp only at q1 ⊢
     rw [if_neg (by omega), if_neg (by omega), if_neg (by omega), if_pos (by omega)] at hr ⊢
     simp only [Bool.and_eq_true] at hr ⊢
     exact ⟨⟨⟨⟨hr.1.1.1.1, hr.1.1.1.2⟩, hr.1.1.2⟩, q1⟩, hex _ hr.2⟩
    ·by_cases c5 : o.code = 5
     ·have hg1 := hg.1 (by omega)
      have q1 := hvv _ hg1.1
      have q2 := hvv _ hg1.2
      have hro : ren to o = { o with a := to.getD o.a.toNat 0, b := to.getD o.b.toNat 0 } := by unfold ren; rw [if_pos (by omega)]
      rw [hro] at q1 q2 ⊢
      simp only at q1 q2 ⊢
      rw [if_neg (by omega), if_neg (by omega), if_neg (by omega), if_neg (by omega), if_pos (by omega)] at hr ⊢
      simp only [Bool.and_eq_true] at hr ⊢
      exact ⟨⟨⟨⟨hr.1.1.1.1, q1⟩, q2⟩, hex _ hr.1.2⟩, hex _ hr.2⟩
     ·by_cases c6 : o.code = 6
      ·have hg1 := hg.1 (by omega)
       have q1 := hvv _ hg1.1
       have q2 := hvv _ hg1.2
       have hro : ren to o = { o with a := to.getD o.a.toNat 0, b := to.getD o.b.toNat 0 } := by unfold ren; rw [if_pos (by omega)]
       rw [hro] at q1 q2 ⊢
       simp only at q1 q2 ⊢
       rw [if_neg (by omega), if_neg (by omega), if_neg (by omega), if_neg (by omega), if_neg (by omega), if_pos (by omega)] at hr ⊢
       simp only [Bool.and_eq_true] at hr ⊢
       exact ⟨⟨⟨⟨⟨hr.1.1.1.1.1, hr.1.1.1.1.2⟩, hr.1.1.1.2⟩, q1⟩, q2⟩, hex _ hr.2⟩
      ·rw [if_neg c1, if_neg c2, if_neg c3, if_neg c4, if_neg c5, if_neg c6] at hr; cases hr
theorem ps_check {f : Rw} (hf : RwOk f) {b : IBk} (hc : b.check = 0) : (b.ps f).check = 0 := by
 have hll := psN_l f b.ops
 have hr : b.right = true ∧ b.long = false := by
  unfold IBk.check at hc
  split at hc
  ·cases hc
  ·rename_i h
   split at hc
   ·exact ⟨by assumption, by simpa using h⟩
   ·cases hc
 obtain ⟨hr, hlong⟩ := hr
 have hl2 : (b.ps f).long = false := by
  simp only [IBk.long, Bool.or_eq_false_iff, decide_eq_false_iff_not] at hlong ⊢
  simp only [IBk.ps, List.length_map]
  omega
 simp only [IBk.right, Bool.and_eq_true, decide_eq_true_eq] at hr
 obtain ⟨⟨⟨⟨r1, r2⟩, r3⟩, r4⟩, r5⟩ := hr
 have hexit : ∀ x, b.exit x b.ops.length = true → (b.ps f).exit x (b.ps f).ops.length = true := fun x hx => by
  have := exit_ps hf hc (Nat.le_refl _) hx
  rw [List.take_length] at this
  exact this
 have hright : (b.ps f).right = true := by
  simp only [IBk.right, Bool.and_eq_true, decide_eq_true_eq]
  refine ⟨⟨⟨⟨allN_true fun j hj => ps_opR hf hc hj, allN_true fun n hn => ?_⟩, r3⟩, r4⟩, hexit _ r5⟩
  have hn2 : n < b.exits.length := by simpa [IBk.ps] using hn
  have hl := allN_get r2 n hn2
  rw [leaves_eq, headN, Bool.and_eq_true] at hl ⊢
  simp only [Bool.and_eq_true] at hl ⊢
  obtain ⟨⟨⟨⟨⟨⟨q1, q2⟩, q3⟩, q4⟩, q5⟩, q6⟩, q7⟩ := hl
  have he : (b.ps f).ex n = renE (psN f b.ops).to (b.ex n) := by simp [IBk.ex, IBk.ps, hn2]
  rw [he]
  refine ⟨⟨⟨⟨⟨⟨hexit _ q1, q2⟩, q3⟩, q4⟩, q5⟩, q6⟩, allN_true fun k hk => ?_⟩
  have hk2 : k < (b.ex n).map.length := by simpa [renE] using hk
  have := allN_get q7 k hk2
  have ev : ∀ k, k < (b.ex n).map.length → ((renE (psN f b.ops).to (b.ex n)).vl k).reg = ((b.ex n).vl k).reg := fun k hk => by simp [IEx.vl, renE, renV, hk]
  rw [regN, ev _ hk2]
  by_cases h0 : k = 0
  ·subst h0; simpa [regN] using this
  ·rw [ev _ (by omega)]; exact this
 rw [IBk.check, hl2, if_neg (by simp), if_pos hright]
end Go.Ab
end
section
namespace Go.Ab
open Go.Proofs
variable {G : Glo} {h : Heap}
theorem Power_spec (n : Nat) (hn : n ≤ 63) : Spec Tryz.prog G 93 [.int .i64 n] h (Is (.int .u64 ((2 ^ n : Nat) : Int)) h) := by
 refine Spec.is C93ok rfl ?_
 simp only [push_cast, simprocAttr]
 refine lpc.rel [0, 3, 4] (fun m ρ h' => ∃ k, m = n - k ∧ k ≤ n ∧ h' = h ∧ ρ = [(0, .int .i64 n), (3, .int .u64 ((2 ^ k : Nat) : Int)), (4, .int .i64 k)]) ⟨n, 0, rfl, by omega, rfl, rfl⟩ ?_
 rintro m _ _ ⟨k, rfl, hk, rfl, rfl⟩
 simp only [push_cast, simprocAttr]
 refine ⟨fun hk2 => ?_, fun hk2 => ?_⟩
 ·have e : (BitVec.ofInt 64 (2 ^ k * 2)).toNat = 2 ^ (k + 1) := by
   have : 2 ^ (k + 1) ≤ 2 ^ 63 := Nat.pow_le_pow_right (by omega) (by omega)
   have e2 : ((2 : Int) ^ k * 2) = ((2 ^ (k + 1) : Nat) : Int) := by push_cast; rw [Int.pow_succ]
   rw [e2, BitVec.ofInt_natCast, BitVec.toNat_ofNat, Nat.mod_eq_of_lt (by omega)]
  simp (disch := omega) only [push_cast, simprocAttr, wrap_i64, toNat_ofInt64, Nat.min_eq_left, Int.toNat_of_nonneg, e]
  exact ⟨_, _, by omega, .refl _, k + 1, rfl, by omega, rfl, by push_cast; rfl⟩
 ·obtain rfl : k = n := by omega
  trivial
end Go.Ab
end
section
namespace Go.Ab
open Go.Proofs
variable {G : Glo} {h : Heap}
@[push_cast] theorem i32_wrap (x : BitVec 32) : IntKind.i32.wrap (x.toNat : Int) = x.toInt := by
 have := x.isLt
 rw [BitVec.toInt_eq_toNat_cond]
 simp only [IntKind.wrap, IntKind.signed, IntKind.bits]
 simp
 split <;> omega
@[push_cast] theorem bits_i32 : IntKind.i32.bits = 32 := rfl
theorem Signed_spec (w : BitVec 32) : Spec Tryz.prog G 95 [.int .u32 w.toNat] h (Is (.int .i64 w.toInt) h) := by
 refine Spec.is C95ok rfl ?_
 have hw := w.isLt
 have h1 := BitVec.toInt_eq_toNat_cond w
 simp (disch := omega) only [push_cast, simprocAttr, wrap_i64, toNat_ofInt64, Nat.min_eq_left, Int.toNat_of_nonneg]
 refine ⟨fun h2 => ?_, fun h2 => ?_⟩
 ·rw [h1, if_neg (by omega)]; rfl
 ·rw [h1, if_pos (by omega)]
theorem Word_spec (n : Int) : Spec Tryz.prog G 121 [.int .i64 n] h (Is (.int .u32 (BitVec.ofInt 32 n).toNat) h) := by
 refine Spec.is C121ok rfl ?_
 simp (disch := omega) only [push_cast, simprocAttr, wrap_i64, toNat_ofInt64, Nat.min_eq_left, Int.toNat_of_nonneg]
 congr 1
 rw [show (4294967296 : Int) = ((4294967296 : Nat) : Int) from rfl, tmod_nat, BitVec.ofInt_natCast, BitVec.toNat_ofNat, BitVec.toNat_ofInt, BitVec.toNat_ofInt]
 congr 1
 omega
theorem pow_int (k : Nat) : ((2 : Int) ^ k) = ((2 ^ k : Nat) : Int) := by push_cast; rfl
theorem Bits_spec (w : BitVec 32) (at_ k : Nat) (ha : at_ ≤ 31) (hk : k ≤ 32) : Spec Tryz.prog G 142 [.int .u32 w.toNat, .int .i64 at_, .int .i64 k] h (Is (.int .u32 (BitVec.ofNat 32 (fld w at_ k)).toNat) h) := by
 refine Spec.is C142ok rfl ?_
 simp only [push_cast, simprocAttr]
 refine (Power_spec at_ (by omega)).to ?_
 simp only [push_cast, simprocAttr]
 refine (Power_spec k (by omega)).to ?_
 simp only [push_cast, simprocAttr]
 rw [pow_int, tmod_nat, BitVec.ofInt_natCast, BitVec.toNat_ushiftRight, sw64, Nat.shiftRight_eq_div_pow]
 rfl
def extN (n k : Nat) : Nat := if 2 ^ (k - 1) ≤ n % 2 ^ k then n % 2 ^ k + 2 ^ 32 - 2 ^ k else n % 2 ^ k
theorem PowV {n P : Nat} (hn : n ≤ 63) (hP : 2 ^ n = P) : Spec Tryz.prog G 93 [.int .i64 n] h (Is (.int .u64 (P : Int)) h) := hP ▸ Power_spec n hn
end Go.Ab
end
section
namespace Go.Ab
open Go.Proofs
variable {G : Glo} {h : Heap}
def bos (l : List Bool) : List AV := l.map .bool
def qws (l : List (BitVec 64)) : List AV := l.map fun x => .int .u64 (x.toNat : Int)
@[push_cast] theorem bos_len (l) : (bos l).length = l.length := by simp [bos]
@[push_cast] theorem qws_len (l) : (qws l).length = l.length := by simp [qws]
@[push_cast] theorem bos_get (l : List Bool) (i : Nat) : (bos l)[i]? = if i < l.length then some (AV.bool (l.getD i false)) else none := by
 simp only [bos, List.getElem?_map]
 split
 ·rename_i h; simp [h]
 ·rename_i h; simp [Nat.not_lt.1 h]
@[push_cast] theorem qws_get (l : List (BitVec 64)) (i : Nat) : (qws l)[i]? = if i < l.length then some (AV.int .u64 ((l.getD i 0#64).toNat : Int)) else none := by
 simp only [qws, List.getElem?_map]
 split
 ·rename_i h; simp [h]
 ·rename_i h; simp [Nat.not_lt.1 h]
@[push_cast] theorem bos_set (l : List Bool) (i : Nat) (b : Bool) : (bos l).set i (.bool b) = bos (l.set i b) := by simp [bos, List.map_set]
@[push_cast] theorem qws_set (l : List (BitVec 64)) (i : Nat) (x : BitVec 64) : (qws l).set i (.int .u64 (x.toNat : Int)) = qws (l.set i x) := by simp [qws, List.map_set]
structure IRam where
 b : List (BitVec 8)
 w : List Bool
 g : List (BitVec 64)
structure Pl where
 p : Nat
 b : Nat
 w : Nat
 g : Nat
structure Pl.ok (l : Pl) : Prop where
 pb : l.p ≠ l.b
 pw : l.p ≠ l.w
 pg : l.p ≠ l.g
 bw : l.b ≠ l.w
 bg : l.b ≠ l.g
 wg : l.w ≠ l.g
def Pl.has (l : Pl) (c : Nat) : Prop := c = l.p ∨ c = l.b ∨ c = l.w ∨ c = l.g
def IRam.wf (M : IRam) : Prop := 64 ≤ M.b.length ∧ M.b.length ≤ 65536 ∧ M.b.length % 64 = 0 ∧ M.w.length = M.b.length / 64 ∧ M.g.length = M.b.length / 64
structure RamAt (H : Heap) (l : Pl) (M : IRam) : Prop where
 ok : l.ok
 wf : M.wf
 hp : H l.p = some ⟨[.sl l.b 0 M.b.length M.b.length, .sl l.w 0 M.w.length M.w.length, .sl l.g 0 M.g.length M.g.length], 0⟩
 hb : H l.b = some ⟨bys M.b, 0⟩
 hw : H l.w = some ⟨bos M.w, 0⟩
 hg : H l.g = some ⟨qws M.g, 0⟩
theorem RamAt.upd {H : Heap} {l : Pl} {M : IRam} (hr : RamAt H l M) {c : Nat} {X : Blk} (hc : ¬ l.has c) : RamAt (Ab.upd H c X) l M := by
 simp only [Pl.has, not_or] at hc
 exact ⟨hr.ok, hr.wf, by rw [upd_ne (Ne.symm hc.1)]; exact hr.hp, by rw [upd_ne (Ne.symm hc.2.1)]; exact hr.hb, by rw [upd_ne (Ne.symm hc.2.2.1)]; exact hr.hw, by rw [upd_ne (Ne.symm hc.2.2.2)]; exact hr.hg⟩
theorem RamAt.not {H : Heap} {l : Pl} {M : IRam} (hr : RamAt H l M) {c : Nat} (hc : H c = none) : ¬ l.has c := by
 rintro (rfl | rfl | rfl | rfl)
 ·rw [hr.hp] at hc; cases hc
 ·rw [hr.hb] at hc; cases hc
 ·rw [hr.hw] at hc; cases hc
 ·rw [hr.hg] at hc; cases hc
def hasN (len : Nat) (addr : BitVec 32) (n : Int) : Bool := decide (1 ≤ n) && decide (n ≤ len) && decide (2147483648 ≤ addr.toNat) && decide ((addr.toNat : Int) - 2147483648 ≤ len - n)
def askedN (len : Nat) (addr : BitVec 32) (n : Int) : Int := if ¬ (n = 1 ∨ n = 2 ∨ n = 4) then 2 else if (addr.toNat : Int) % n ≠ 0 then 5 else if hasN len addr n then 0 else 6
section
variable {l : Pl} {M : IRam}
theorem Arg1.part {h : Heap} {b o n cap : Nat} {x : Blk} {cells : List AV} (hb : h b = some x) (hc : ∀ (i : Nat) v, cells[i]? = some v → x.cells[o + i]? = some v) (h0 : n = 0 → cells = []) : Arg1 h (.sl b o n cap) (.ro cells n) :=
 fun w v hw hr => row_rep hw hb hc h0 hr (fun h => h) (fun _ _ h => h)
def IRam.load (M : IRam) (addr : BitVec 32) (n : Nat) : BitVec 32 := BitVec.ofNat 32 (leN ((M.b.drop (addr.toNat - 2147483648)).take n))
def IRam.put (M : IRam) (k : Nat) (c : List (BitVec 8)) : IRam := { M with b := M.b.take k ++ c ++ M.b.drop (k + c.length) }
theorem put_len (M : IRam) (k : Nat) (c : List (BitVec 8)) (hk : k + c.length ≤ M.b.length) : (M.put k c).b.length = M.b.length := by simp [IRam.put]; omega
theorem RamAt.put {H : Heap} (hr : RamAt H l M) (k : Nat) (c : List (BitVec 8)) (hk : k + c.length ≤ M.b.length) : RamAt (Ab.upd H l.b ⟨bys (M.put k c).b, 0⟩) l (M.put k c) := by
 have hl := put_len M k c hk
 have ho := hr.ok
 refine ⟨ho, ?_, ?_, upd_same _ _ _, ?_, ?_⟩
 ·have := hr.wf; unfold IRam.wf at this ⊢; rw [hl]; exact this
 ·rw [upd_ne ho.pb, hl]; exact hr.hp
 ·rw [upd_ne (Ne.symm ho.bw)]; exact hr.hw
 ·rw [upd_ne (Ne.symm ho.bg)]; exact hr.hg
def IRam.fill (M : IRam) (addr : BitVec 32) (c : List (BitVec 8)) : IRam := if c.length ≠ 0 ∧ hasN M.b.length addr c.length = true then M.put (addr.toNat - 2147483648) c else M
def IRam.store (M : IRam) (addr : BitVec 32) (n : Nat) (w : BitVec 32) : IRam × Bool :=
 let k := addr.toNat - 2147483648
 let N := M.put k (leB w n)
 if M.w.getD (k / 64) false then ({ N with w := N.w.set (k / 64) false, g := N.g.set (k / 64) (N.g.getD (k / 64) 0#64 + 1#64) }, true) else (N, false)
end
end Go.Ab
end
section
namespace Go.Ab
open Go.Proofs
variable {G : Glo} {h : Heap}
section
variable {l : Pl} {M : IRam}
def IRam.new (n : Nat) : IRam := ⟨List.replicate n 0, List.replicate (n / 64) false, List.replicate (n / 64) 0⟩
end
end Go.Ab
end
section
namespace Go.Ab
open Go.Proofs
variable {G : Glo} {h : Heap}
def plainN (op : Int) : Int := if op = 19 then 28 else if op = 20 then 31 else if op = 21 then 32 else if op = 22 then 33 else if op = 23 then 36 else if op = 24 then 37 else if op = 25 then 30 else if op = 26 then 34 else if op = 27 then 35 else if 19 ≤ op ∧ op ≤ 37 then op else 0
def bit1 (b : Bool) : BitVec 32 := if b then 1 else 0
def aluP (p : Int) (a b : BitVec 32) : BitVec 32 :=
 if p = 28 then a + b else if p = 29 then a - b else if p = 30 then a <<< (b.toNat % 32) else if p = 31 then bit1 (decide (a.toInt < b.toInt)) else if p = 32 then bit1 (decide (a.toNat < b.toNat)) else if p = 33 then a ^^^ b else if p = 34 then a >>> (b.toNat % 32) else if p = 36 then a ||| b else if p = 37 then a &&& b else if p = 35 then a.sshiftRight (b.toNat % 32) else 0
def aluN (op : Int) (a b : BitVec 32) : BitVec 32 := aluP (plainN op) a b
def aluE (op : Int) : Int := if 19 ≤ op ∧ op ≤ 37 then 0 else 9
theorem one_spec (b : Bool) : Spec Tryz.prog G 167 [.bool b] h (Is (.int .u32 (bit1 b).toNat) h) := by
 refine Spec.is C167ok rfl ?_
 simp only [push_cast, simprocAttr]
 cases b <;> simp [bit1]
theorem rone_spec (b : Bool) : Spec Tryz.prog G 122 [.bool b] h (Is (.int .u32 (bit1 b).toNat) h) := by
 refine Spec.is C122ok rfl ?_
 simp only [push_cast, simprocAttr]
 cases b <;> simp [bit1]
theorem Plain_spec (op : Int) : Spec Tryz.prog G 159 [.int .i64 op] h (Is (.int .i64 (plainN op)) h) := by
  refine Spec.is C159ok rfl ?_
  simp only [push_cast, simprocAttr]
  unfold plainN
  refine ⟨fun h1 => ?_, fun h1 => ⟨fun h2 => ?_, fun h2 => ⟨fun h3 => ?_, fun h3 => ⟨fun h4 => ?_, fun h4 => ⟨fun h5 => ?_, fun h5 => ⟨fun h6 => ?_, fun h6 => ⟨fun h7 => ?_, fun h7 => ⟨fun h8 => ?_, fun h8 => ⟨fun h9 => ?_, fun h9 => ?_⟩⟩⟩⟩⟩⟩⟩⟩⟩
  all_goals first
    | (simp [*]; done)
    | (refine (aHas_spec op).to ?_
       simp only [push_cast, simprocAttr]
       simp only [if_neg h1, if_neg h2, if_neg h3, if_neg h4, if_neg h5, if_neg h6, if_neg h7, if_neg h8, if_neg h9]
       first
         | exact ⟨fun h10 => by rw [if_pos h10], fun h10 => by rw [if_neg (by rintro ⟨q1, q2⟩; simp [q1, q2] at h10)]⟩)
theorem plain_range (op : Int) : (plainN op = 0 ∧ ¬ (19 ≤ op ∧ op ≤ 37)) ∨ (28 ≤ plainN op ∧ plainN op ≤ 37 ∧ 19 ≤ op ∧ op ≤ 37) := by
 unfold plainN
 (repeat' split) <;> omega
theorem xor_top (x : Nat) (hx : x < 2 ^ 32) : x ^^^ 2 ^ 31 = (2 ^ 31 + x) % 2 ^ 32 := by
 apply Nat.eq_of_testBit_eq
 intro i
 rw [Nat.testBit_xor, Nat.testBit_two_pow, Nat.testBit_mod_two_pow]
 rcases Nat.lt_trichotomy i 31 with hi | rfl | hi
 ·rw [Nat.testBit_two_pow_add_gt hi]
  simp [show ¬ 31 = i by omega, show i < 32 by omega]
 ·rw [Nat.testBit_two_pow_add_eq]
  simp
 ·have : x.testBit i = false := Nat.testBit_lt_two_pow (Nat.lt_of_lt_of_le hx (Nat.pow_le_pow_right (by omega) (by omega)))
  simp [this, show ¬ 31 = i by omega, show ¬ i < 32 by omega]
theorem toInt_top (x : BitVec 32) : ((x ^^^ 0x80000000#32).toNat : Int) = x.toInt + 2147483648 := by
 have hx := x.isLt
 have h1 : (x ^^^ 0x80000000#32).toNat = (2 ^ 31 + x.toNat) % 2 ^ 32 := by
  rw [BitVec.toNat_xor, ← xor_top _ hx]; rfl
 rw [h1, BitVec.toInt_eq_toNat_cond]
 split <;> omega
theorem and31 (b : BitVec 32) : min (BitVec.setWidth 64 (b &&& 31#32)).toNat 32 = b.toNat % 32 := by
 have := and_mod b 5 (by omega)
 simp only [Nat.reducePow, Nat.reduceSub] at this
 rw [sw64, this]
 omega
theorem sar_eq (a : BitVec 32) (n : Nat) : BitVec.ofInt 32 (a.toInt.fdiv (2 ^ n)) = a.sshiftRight n := by
 rw [pow_int, Int.fdiv_eq_ediv_of_nonneg _ (Int.natCast_nonneg _), BitVec.sshiftRight, Int.shiftRight_eq_div_pow]
theorem Do_alu (op : Int) (a b : BitVec 32) : Spec Tryz.prog G 160 [.int .i64 op, .int .u32 a.toNat, .int .u32 b.toNat] h (Is (.tup [.int .u32 (aluN op a b).toNat, .int .i64 (aluE op)]) h) := by
 refine Spec.is C160ok rfl ?_
 simp only [push_cast, simprocAttr]
 refine (Plain_spec op).to ?_
 have hr := plain_range op
 have hE : aluE op = if plainN op = 0 then 9 else 0 := by
  unfold aluE
  rcases hr with ⟨h1, h2⟩ | h1
  ·rw [if_neg h2, if_pos h1]
  ·rw [if_pos ⟨h1.2.2.1, h1.2.2.2⟩, if_neg (by omega)]
 rw [hE, aluN]
 have ht := toInt_top a
 have ht' := toInt_top b
 have hd : decide ((a ^^^ 0x80000000#32).toNat < (b ^^^ 0x80000000#32).toNat) = decide (a.toInt < b.toInt) := by
  rw [decide_eq_decide]; omega
 generalize plainN op = p at *
 simp only [push_cast, simprocAttr, and31, hd]
 unfold aluP
 refine ⟨fun h1 => ?_, fun h1 => ⟨fun h2 => ?_, fun h2 => ⟨fun h3 => ?_, fun h3 => ⟨fun h4 => (one_spec _).to ?_, fun h4 => ⟨fun h5 => (one_spec _).to ?_, fun h5 => ⟨fun h6 => ?_, fun h6 => ⟨fun h7 => ?_, fun h7 => ⟨fun h8 => ?_, fun h8 => ⟨fun h9 => ?_, fun h9 => ⟨fun h10 => ?_, fun h10 => ?_⟩⟩⟩⟩⟩⟩⟩⟩⟩⟩
 ·subst h1; simp [BitVec.sub_eq_add_neg]
 ·subst h2; simp
 ·subst h3; simp
 ·simp only [push_cast, simprocAttr]
  subst h4; simp
 ·simp only [push_cast, simprocAttr]
  subst h5; simp
 ·subst h6; simp
 ·subst h7; simp
 ·subst h8
  simp only [Int.reduceEq, reduceIte, sar_eq]
 ·subst h9; simp
 ·subst h10; simp
 ·have : p = 0 := by omega
  subst this; simp
def mdN (op : Int) (a b : BitVec 32) : BitVec 32 :=
 if op = 50 then a * b else if op = 51 then BitVec.ofInt 32 (a.toInt * b.toInt / 4294967296) else if op = 52 then BitVec.ofInt 32 (a.toInt * b.toNat / 4294967296) else if op = 53 then BitVec.ofNat 32 (a.toNat * b.toNat / 4294967296)
 else if op = 54 then (if b = 0#32 then 0xffffffff#32 else BitVec.ofInt 32 (a.toInt.tdiv b.toInt)) else if op = 55 then (if b = 0#32 then 0xffffffff#32 else a / b)
 else if op = 56 then (if b = 0#32 then a else BitVec.ofInt 32 (a.toInt.tmod b.toInt)) else if op = 57 then (if b = 0#32 then a else a % b) else 0
def mdE (op : Int) : Int := if 50 ≤ op ∧ op ≤ 57 then 0 else 9
theorem shr31 (a : BitVec 32) : (((a >>> 31).toNat : Int) == 1) = decide (a.toInt < 0) := by
 rw [Bool.eq_iff_iff, beq_iff_eq, decide_eq_true_eq, BitVec.toNat_ushiftRight, Nat.shiftRight_eq_div_pow, BitVec.toInt_eq_toNat_cond]
 have := a.isLt
 split <;> omega
theorem negative_spec (a : BitVec 32) : Spec Tryz.prog G 171 [.int .u32 a.toNat] h (Is (.bool (decide (a.toInt < 0))) h) := by
 refine Spec.is C171ok rfl ?_
 simp only [push_cast, simprocAttr]
 rw [show min 31 32 = 31 from rfl, shr31]
theorem and16 (b : BitVec 32) : (b &&& 65535#32).toNat = b.toNat % 65536 := by
 have := and_mod b 16 (by omega)
 simpa using this
theorem prod16 {x y : Nat} (hx : x < 65536) (hy : y < 65536) : x * y ≤ 4294836225 := by
 have := Nat.mul_le_mul (show x ≤ 65535 by omega) (show y ≤ 65535 by omega)
 omega
theorem wide_eq (a b : BitVec 32) : a >>> 16 * b >>> 16 + (a >>> 16 * (b &&& 65535#32) + ((a &&& 65535#32) * (b &&& 65535#32)) >>> 16) >>> 16 +
  ((a &&& 65535#32) * b >>> 16 + (a >>> 16 * (b &&& 65535#32) + ((a &&& 65535#32) * (b &&& 65535#32)) >>> 16 &&& 65535#32)) >>> 16 = BitVec.ofNat 32 (a.toNat * b.toNat / 4294967296) := by
 have ha := a.isLt
 have hb := b.isLt
 apply BitVec.eq_of_toNat_eq
 simp only [BitVec.toNat_add, BitVec.toNat_mul, BitVec.toNat_ushiftRight, and16, Nat.shiftRight_eq_div_pow, BitVec.toNat_ofNat, Nat.reducePow]
 generalize a.toNat = A at *
 generalize b.toNat = B at *
 obtain ⟨x, y, hx, hy, rfl⟩ : ∃ x y, x < 65536 ∧ y < 65536 ∧ A = 65536 * x + y := ⟨A / 65536, A % 65536, by omega, by omega, by omega⟩
 obtain ⟨u, v, hu, hv, rfl⟩ : ∃ u v, u < 65536 ∧ v < 65536 ∧ B = 65536 * u + v := ⟨B / 65536, B % 65536, by omega, by omega, by omega⟩
 rw [show (65536 * x + y) / 65536 = x by omega, show (65536 * x + y) % 65536 = y by omega, show (65536 * u + v) / 65536 = u by omega, show (65536 * u + v) % 65536 = v by omega]
 have e : (65536 * x + y) * (65536 * u + v) = 4294967296 * (x * u) + 65536 * (x * v) + 65536 * (y * u) + y * v := by grind
 have h1 := prod16 hx hu
 have h2 := prod16 hx hv
 have h3 := prod16 hy hu
 have h4 := prod16 hy hv
 rw [e]
 generalize x * u = p at *
 generalize x * v = q at *
 generalize y * u = r at *
 generalize y * v = s at *
 omega
theorem Wide_spec (a b : BitVec 32) : Spec Tryz.prog G 170 [.int .u32 a.toNat, .int .u32 b.toNat] h (Is (.tup [.int .u32 (BitVec.ofNat 32 (a.toNat * b.toNat / 4294967296)).toNat, .int .u32 (a * b).toNat]) h) := by
 refine Spec.is C170ok rfl ?_
 simp only [push_cast, simprocAttr]
 rw [show min 16 32 = 16 from rfl, wide_eq]
theorem ofInt_congr {x y : Int} (k : Int) (h : x = y + 4294967296 * k) : BitVec.ofInt 32 x = BitVec.ofInt 32 y := by
 apply BitVec.eq_of_toNat_eq
 rw [BitVec.toNat_ofInt, BitVec.toNat_ofInt]
 congr 1
 omega
theorem bv_int (a : BitVec 32) : a = BitVec.ofInt 32 (a.toNat : Int) := by rw [BitVec.ofInt_natCast]; simp
theorem up_eq (a b : BitVec 32) (sa sb : Bool) : BitVec.ofNat 32 (a.toNat * b.toNat / 4294967296) - (if (sa && decide (a.toInt < 0)) = true then b else 0#32) - (if (sb && decide (b.toInt < 0)) = true then a else 0#32) =
  BitVec.ofInt 32 ((if sa then a.toInt else a.toNat) * (if sb then b.toInt else b.toNat) / 4294967296) := by
 have h0 : BitVec.ofNat 32 (a.toNat * b.toNat / 4294967296) = BitVec.ofInt 32 (((a.toNat : Int) * (b.toNat : Int)) / 4294967296) := by
  rw [← BitVec.ofInt_natCast]; congr 1
 have hz : (0#32) = BitVec.ofInt 32 0 := rfl
 have ha := BitVec.toInt_eq_toNat_cond a
 have hb := BitVec.toInt_eq_toNat_cond b
 have la := a.isLt
 have lb := b.isLt
 have ea : a.toInt = (a.toNat : Int) - (if a.toInt < 0 then 4294967296 else 0) := by split <;> split at ha <;> omega
 have eb : b.toInt = (b.toNat : Int) - (if b.toInt < 0 then 4294967296 else 0) := by split <;> split at hb <;> omega
 clear ha hb
 have fa : (if (sa && decide (a.toInt < 0)) = true then b else 0#32) = BitVec.ofInt 32 (if (sa && decide (a.toInt < 0)) = true then (b.toNat : Int) else 0) := by split; exact bv_int b; rfl
 have fb : (if (sb && decide (b.toInt < 0)) = true then a else 0#32) = BitVec.ofInt 32 (if (sb && decide (b.toInt < 0)) = true then (a.toNat : Int) else 0) := by split; exact bv_int a; rfl
 rw [h0, fa, fb, ← ofInt_sub', ← ofInt_sub']
 generalize a.toInt = x at *
 generalize b.toInt = y at *
 generalize (a.toNat : Int) = A at *
 generalize (b.toNat : Int) = B at *
 have key : ∀ p q : Int, (A - 4294967296 * p) * (B - 4294967296 * q) = A * B + 4294967296 * (4294967296 * (p * q) - p * B - q * A) := by intro p q; grind
 have fin : ∀ p q : Int, (A - 4294967296 * p) * (B - 4294967296 * q) / 4294967296 = A * B / 4294967296 + (4294967296 * (p * q) - p * B - q * A) := by
  intro p q
  rw [key, Int.add_mul_ediv_left _ _ (by omega)]
 have k00 := fin 0 0
 have k01 := fin 0 1
 have k10 := fin 1 0
 have k11 := fin 1 1
 simp only [Int.mul_zero, Int.sub_zero, Int.mul_one, Int.zero_mul, Int.one_mul, Int.zero_sub, Int.sub_self, Int.add_zero] at k00 k01 k10 k11
 cases sa <;> cases sb <;> simp only [Bool.true_and, Bool.false_and, Bool.false_eq_true, reduceIte, decide_eq_true_eq]
 ·exact ofInt_congr 0 (by omega)
 ·by_cases hy : y < 0
  ·rw [if_pos hy] at eb ⊢
   rw [eb, k01]; exact ofInt_congr 0 (by omega)
  ·rw [if_neg hy, Int.sub_zero] at eb
   rw [if_neg hy, eb]; exact ofInt_congr 0 (by omega)
 ·by_cases hx : x < 0
  ·rw [if_pos hx] at ea ⊢
   rw [ea, k10]; exact ofInt_congr 0 (by omega)
  ·rw [if_neg hx, Int.sub_zero] at ea
   rw [if_neg hx, ea]; exact ofInt_congr 0 (by omega)
 ·by_cases hx : x < 0 <;> by_cases hy : y < 0
  ·rw [if_pos hx] at ea ⊢
   rw [if_pos hy] at eb ⊢
   rw [ea, eb, k11]; exact ofInt_congr (-1) (by omega)
  ·rw [if_pos hx] at ea ⊢
   rw [if_neg hy, Int.sub_zero] at eb
   rw [if_neg hy, ea, eb, k10]; exact ofInt_congr 0 (by omega)
  ·rw [if_neg hx, Int.sub_zero] at ea
   rw [if_pos hy] at eb ⊢
   rw [if_neg hx, ea, eb, k01]; exact ofInt_congr 0 (by omega)
  ·rw [if_neg hx, Int.sub_zero] at ea
   rw [if_neg hy, Int.sub_zero] at eb
   rw [if_neg hx, if_neg hy, ea, eb]; exact ofInt_congr 0 (by omega)
theorem upper_spec (a b : BitVec 32) (sa sb : Bool) : Spec Tryz.prog G 168 [.int .u32 a.toNat, .int .u32 b.toNat, .bool sa, .bool sb] h
  (Is (.int .u32 (BitVec.ofInt 32 ((if sa then a.toInt else a.toNat) * (if sb then b.toInt else b.toNat) / 4294967296)).toNat) h) := by
 rw [← up_eq]
 refine Spec.is C168ok rfl ?_
 simp only [push_cast, simprocAttr]
 refine (Wide_spec a b).to ?_
 cases sa <;> cases sb
 ·simp only [push_cast, simprocAttr]
  simp
 ·simp only [push_cast, simprocAttr]
  refine (negative_spec b).to ?_
  simp only [push_cast, simprocAttr]
  by_cases hb : b.toInt < 0 <;> simp [hb]
 ·simp only [push_cast, simprocAttr]
  refine (negative_spec a).to ?_
  simp only [push_cast, simprocAttr]
  by_cases ha : a.toInt < 0 <;> simp [ha]
 ·simp only [push_cast, simprocAttr]
  refine (negative_spec a).to ?_
  simp only [push_cast, simprocAttr]
  by_cases ha : a.toInt < 0
  ·simp only [push_cast, simprocAttr, ha]
   refine (negative_spec b).to ?_
   simp only [push_cast, simprocAttr]
   by_cases hb : b.toInt < 0 <;> simp [hb]
  ·simp only [push_cast, simprocAttr, ha]
   refine (negative_spec b).to ?_
   simp only [push_cast, simprocAttr]
   by_cases hb : b.toInt < 0 <;> simp [hb]
theorem rright_spec (n : Int) (s : Nat) (h1 : -2147483648 ≤ n) (h2 : n < 2147483648) (hs : s ≤ 31) : Spec Tryz.prog G 124 [.int .i64 n, .int .i64 s] h (Is (.int .i64 (n / 2 ^ s)) h) := by
 refine Spec.is C124ok rfl ?_
 simp only [push_cast, simprocAttr]
 have hp := Nat.two_pow_pos s
 obtain ⟨P, hP⟩ : ∃ P, 2 ^ s = P := ⟨_, rfl⟩
 have hP2 : P ≤ 2 ^ 31 := hP ▸ Nat.pow_le_pow_right (by omega) hs
 rw [hP] at hp
 rw [show ((2 : Int) ^ s) = (P : Int) by rw [pow_int, hP]]
 refine (PowV (by omega) hP).to ?_
 have h5 : ((P : Int) = 0) = False := by simp; omega
 simp (disch := omega) only [push_cast, simprocAttr, wrap_i64, toNat_ofInt64, Nat.min_eq_left, Int.toNat_of_nonneg, h5]
 have hP0 : (0 : Int) < P := by omega
 refine ⟨fun hn => ?_, fun hn => ?_⟩
 ·rw [Int.tdiv_eq_ediv_of_nonneg (by omega)]
  have b1 := Int.ediv_nonneg (show 0 ≤ n by omega) (Int.le_of_lt hP0)
  have b2 := Int.ediv_le_self (P : Int) (show 0 ≤ n by omega)
  rw [wrap_i64 (by omega) (by omega)]
 ·rw [Int.tdiv_eq_ediv_of_nonneg (by omega)]
  have e : (P - 1 - n) / (P : Int) = -(n / P) := by
   have e1 := Int.emod_add_mul_ediv n P
   have e2 := Int.emod_nonneg n (show (P : Int) ≠ 0 by omega)
   have e3 := Int.emod_lt_of_pos n hP0
   refine ((Int.ediv_emod_unique (r := P - 1 - n % P) hP0).2 ⟨?_, by omega, by omega⟩).1
   rw [Int.mul_neg]
   omega
  have b1 := Int.ediv_nonneg (show 0 ≤ P - 1 - n by omega) (Int.le_of_lt hP0)
  have b2 := Int.ediv_le_self (P : Int) (show 0 ≤ P - 1 - n by omega)
  rw [wrap_i64 (x := (P - 1 - n) / P) (by omega) (by omega), wrap_i64 (by omega) (by omega), e]
  congr 1; omega
theorem high_spec (n : Int) (h1 : -9223372036854775807 ≤ n) (h2 : n < 9223372036854775807) : Spec Tryz.prog G 120 [.int .i64 n] h (Is (.int .u32 (BitVec.ofInt 32 (n / 4294967296)).toNat) h) := by
 refine Spec.is C120ok rfl ?_
 simp (disch := omega) only [push_cast, simprocAttr, wrap_i64, toNat_ofInt64, Nat.min_eq_left, Int.toNat_of_nonneg]
 refine ⟨fun hn => ?_, fun hn => ?_⟩
 ·rw [Int.tdiv_eq_ediv_of_nonneg (by omega), wrap_i64 (by omega) (by omega)]
  refine (Word_spec _).to ?_
  simp only [push_cast, simprocAttr]
 ·rw [Int.tdiv_eq_ediv_of_nonneg (by omega), wrap_i64 (x := (0 - (n + 1)) / 4294967296) (by omega) (by omega), wrap_i64 (x := 0 - (0 - (n + 1)) / 4294967296) (by omega) (by omega), wrap_i64 (by omega) (by omega)]
  rw [show 0 - (0 - (n + 1)) / 4294967296 - 1 = n / 4294967296 by omega]
  refine (Word_spec _).to ?_
  simp only [push_cast, simprocAttr]
theorem size_spec (a : BitVec 32) : Spec Tryz.prog G 174 [.int .u32 a.toNat] h (Is (.int .u32 (BitVec.ofNat 32 a.toInt.natAbs).toNat) h) := by
 refine Spec.is C174ok rfl ?_
 simp only [push_cast, simprocAttr]
 refine (negative_spec a).to ?_
 have ha := BitVec.toInt_eq_toNat_cond a
 have la := a.isLt
 simp only [push_cast, simprocAttr]
 refine ⟨fun h1 => ?_, fun h1 => ?_⟩
 ·congr 2
  rw [BitVec.toNat_sub, BitVec.toNat_ofNat, BitVec.toNat_ofNat]
  split at ha <;> omega
 ·congr 2
  rw [BitVec.toNat_ofNat]
  split at ha <;> omega
abbrev wd (a : BitVec 32) : AV := .int .u32 a.toNat
abbrev cell1 (a : BitVec 32) : Blk := ⟨[wd a], 0⟩
def dPost (h : Heap) (pq pr : Nat) (q r : BitVec 32) (h' : Heap) : Prop := h' pq = some (cell1 q) ∧ h' pr = some (cell1 r) ∧ ∀ c, c ≠ pq → c ≠ pr → h' c = h c
theorem divided1_spec {pa pb pq pr : Nat} (a b q r q1 r1 : BitVec 32) (ha : h pa = some (cell1 a)) (hb : h pb = some (cell1 b)) (hq : h pq = some (cell1 q)) (hr : h pr = some (cell1 r)) (n1 : pa ≠ pq) (n2 : pq ≠ pr)
  (hq1 : q1 = if decide (a.toInt < 0) != decide (b.toInt < 0) then 0 - q else q) (hr1 : r1 = if a.toInt < 0 then 0 - r else r) :
  SpecD Tryz.prog G 173 [.ptr pa 0, .ptr pb 0, .ptr pq 0, .ptr pr 0] h (fun _ h' => dPost h pq pr q1 r1 h') := by
 refine SpecD.walk C173ok rfl ?_
 simp only [push_cast, simprocAttr, ha, hb]
 refine (negative_spec a).to ?_
 simp only [push_cast, simprocAttr, ha, hb]
 refine (negative_spec b).to ?_
 simp only [push_cast, simprocAttr, ha, hb]
 have key : ∀ (q' : BitVec 32) (h1 : Heap), h1 = upd h pq (cell1 q') → h1 pa = some (cell1 a) ∧ h1 pr = some (cell1 r) ∧ h1 pq = some (cell1 q') := by
  rintro q' _ rfl
  exact ⟨by rw [upd_ne n1]; exact ha, by rw [upd_ne (Ne.symm n2)]; exact hr, upd_same _ _ _⟩
 have fin : ∀ (q' : BitVec 32) (h1 : Heap), h1 = upd h pq (cell1 q') → ∀ r' : BitVec 32, dPost h pq pr q' r' (upd h1 pr (cell1 r')) := by
  rintro q' _ rfl r'
  exact ⟨by rw [upd_ne n2]; exact upd_same _ _ _, upd_same _ _ _, fun c h1 h2 => by rw [upd_ne h2, upd_ne h1]⟩
 have hself : h = upd h pq (cell1 q) := (upd_self hq).symm
 refine ⟨fun h1 => ?_, fun h1 => ?_⟩
 ·simp only [push_cast, simprocAttr, hq]
  obtain ⟨k1, k2, k3⟩ := key (0#32 - q) _ rfl
  have f := fin (0#32 - q) _ rfl
  have hc : (decide (a.toInt < 0) != decide (b.toInt < 0)) = true := by rw [bne_iff_ne]; exact h1
  rw [if_pos hc] at hq1
  subst hq1
  generalize upd h pq (cell1 (0#32 - q)) = h1 at *
  simp only [push_cast, simprocAttr, k1]
  refine (negative_spec a).to ?_
  simp only [push_cast, simprocAttr, k1, k2]
  refine ⟨fun h2 => ?_, fun h2 => ?_⟩
  ·rw [if_pos h2] at hr1
   subst hr1
   exact f (0#32 - r)
  ·rw [if_neg h2] at hr1
   subst hr1
   have := f r1
   rwa [upd_self k2] at this
 ·obtain ⟨k1, k2, k3⟩ := key q h hself
  have f := fin q h hself
  have hc : ¬ (decide (a.toInt < 0) != decide (b.toInt < 0)) = true := by rw [bne_iff_ne]; exact fun q => q h1
  rw [if_neg hc] at hq1
  subst hq1
  refine (negative_spec a).to ?_
  simp only [push_cast, simprocAttr, k1, k2]
  refine ⟨fun h2 => ?_, fun h2 => ?_⟩
  ·rw [if_pos h2] at hr1
   subst hr1
   exact f (0#32 - r)
  ·rw [if_neg h2] at hr1
   subst hr1
   have := f r1
   rwa [upd_self k2] at this
theorem SpecD.mono {P : Program} {f : FuncId} {args : List AV} {h : Heap} {Q Q' : AV → Heap → Prop} (hs : SpecD P G f args h Q) (hq : ∀ r h', Q r h' → Q' r h') : SpecD P G f args h Q' :=
 fun w vs u h1 h2 h3 => (hs w vs u h1 h2 h3).mono fun _ _ _ ⟨e, v, r, h', a, b, c⟩ => ⟨e, v, r, h', a, hq _ _ b, c⟩
theorem Spec.isD {P : Program} {f : FuncId} {fn : Func} {x y : ACode} {d g : Nat} {caps : List Operand} {rs : List RV} {args : List AV} {h h1 : Heap} {v : AV} (ho : Okd P f fn x (d, g, caps) y rs)
  (hn : Nat.ble args.length fn.ntmps = true) (hw : wpc P G fn.ntmps x (midC P G fn.ntmps d g caps y rs (IsS v h1)) (argEnv args) h) : Spec P G f args h (Is v h1) :=
 Spec.drop ((Spec.walkD ho hn hw).mono fun _ _ ⟨e1, e2⟩ => ⟨h1, e2, e1, rfl⟩)
theorem div_zero_iff (b : BitVec 32) (hb : b ≠ 0#32) : b.toInt ≠ 0 := fun e => hb (by rw [← BitVec.toInt_inj, e]; rfl)
theorem abs_le (a : BitVec 32) : a.toInt.natAbs ≤ 2147483648 := by
 have ha := BitVec.toInt_eq_toNat_cond a
 have la := a.isLt
 split at ha <;> omega
theorem size_nat (a : BitVec 32) : (BitVec.ofNat 32 a.toInt.natAbs).toNat = a.toInt.natAbs := by
 have := abs_le a
 rw [BitVec.toNat_ofNat]; omega
theorem quo_sign (a b : BitVec 32) : BitVec.ofInt 32 (a.toInt.tdiv b.toInt) = if decide (a.toInt < 0) != decide (b.toInt < 0) then 0 - BitVec.ofNat 32 (a.toInt.natAbs / b.toInt.natAbs) else BitVec.ofNat 32 (a.toInt.natAbs / b.toInt.natAbs) := by
 have hz : (0 : BitVec 32) = BitVec.ofInt 32 0 := rfl
 generalize a.toInt = x
 generalize b.toInt = y
 have k : ∀ m n : Nat, ((m : Int) : Int).tdiv n = ((m / n : Nat) : Int) := fun m n => by simp
 rw [← BitVec.ofInt_natCast, hz, ← ofInt_sub']
 by_cases hx : x < 0 <;> by_cases hy : y < 0 <;> simp only [hx, hy, decide_true, decide_false, bne_self_eq_false, Bool.false_eq_true, reduceIte, Bool.true_bne, Bool.false_bne, Bool.not_false, Bool.not_true]
 ·have e1 : x = -((x.natAbs : Nat) : Int) := by omega
  have e2 : y = -((y.natAbs : Nat) : Int) := by omega
  rw [e1, e2, Int.neg_tdiv, Int.tdiv_neg, k]; simp
 ·have e1 : x = -((x.natAbs : Nat) : Int) := by omega
  have e2 : y = ((y.natAbs : Nat) : Int) := by omega
  rw [e1, e2, Int.neg_tdiv, k]; simp
 ·have e1 : x = ((x.natAbs : Nat) : Int) := by omega
  have e2 : y = -((y.natAbs : Nat) : Int) := by omega
  rw [e1, e2, Int.tdiv_neg, k]; simp
 ·have e1 : x = ((x.natAbs : Nat) : Int) := by omega
  have e2 : y = ((y.natAbs : Nat) : Int) := by omega
  rw [e1, e2, k]; simp
theorem rem_sign (a b : BitVec 32) : BitVec.ofInt 32 (a.toInt.tmod b.toInt) = if a.toInt < 0 then 0 - BitVec.ofNat 32 (a.toInt.natAbs % b.toInt.natAbs) else BitVec.ofNat 32 (a.toInt.natAbs % b.toInt.natAbs) := by
 have hz : (0 : BitVec 32) = BitVec.ofInt 32 0 := rfl
 generalize a.toInt = x
 generalize b.toInt = y
 have k : ∀ m n : Nat, ((m : Int) : Int).tmod n = ((m % n : Nat) : Int) := fun m n => rfl
 rw [← BitVec.ofInt_natCast, hz, ← ofInt_sub']
 have e0 : x.tmod y = x.tmod ((y.natAbs : Nat) : Int) := by
  by_cases hy : y < 0
  ·have e2 : y = -((y.natAbs : Nat) : Int) := by omega
   rw [e2, Int.tmod_neg]; simp
  ·have e2 : y = ((y.natAbs : Nat) : Int) := by omega
   rw [← e2]
 rw [e0]
 by_cases hx : x < 0
 ·have e1 : x = -((x.natAbs : Nat) : Int) := by omega
  rw [if_pos hx]
  rw [e1, Int.neg_tmod, k]; simp
 ·have e1 : x = ((x.natAbs : Nat) : Int) := by omega
  rw [if_neg hx]
  rw [e1, k]; simp
theorem divided_spec (a b : BitVec 32) (hb : b ≠ 0#32) : Spec Tryz.prog G 172 [.int .u32 a.toNat, .int .u32 b.toNat] h
  (Is (.tup [.int .u32 (BitVec.ofInt 32 (a.toInt.tdiv b.toInt)).toNat, .int .u32 (BitVec.ofInt 32 (a.toInt.tmod b.toInt)).toNat]) h) := by
 refine Spec.isD C172ok rfl ?_
 simp only [push_cast, simprocAttr]
 intro c1 h1 c2 h2 c3 h3 c4 h4
 obtain ⟨n4, h4'⟩ := upd_none h4
 obtain ⟨n42, h4''⟩ := upd_none h4'
 obtain ⟨n41, h40⟩ := upd_none h4''
 obtain ⟨n32, h3'⟩ := upd_none h3
 obtain ⟨n31, h30⟩ := upd_none h3'
 obtain ⟨n21, h20⟩ := upd_none h2
 clear h4 h4' h4'' h3 h3' h2
 obtain ⟨H, hH⟩ : ∃ H, upd (upd (upd (upd h c1 ⟨[.int .u32 a.toNat], 0⟩) c2 ⟨[.int .u32 b.toNat], 0⟩) c3 ⟨[.int .u32 0], 0⟩) c4 ⟨[.int .u32 0], 0⟩ = H := ⟨_, rfl⟩
 have k1 : H c1 = some (cell1 a) := by rw [← hH, upd_ne (Ne.symm n41), upd_ne (Ne.symm n31), upd_ne (Ne.symm n21), upd_same]
 have k2 : H c2 = some (cell1 b) := by rw [← hH, upd_ne (Ne.symm n42), upd_ne (Ne.symm n32), upd_same]
 have k3 : H c3 = some (cell1 0) := by rw [← hH, upd_ne (Ne.symm n4), upd_same]; rfl
 have k4 : H c4 = some (cell1 0) := by rw [← hH, upd_same]; rfl
 have hs : ∀ c, c ≠ c1 → c ≠ c2 → c ≠ c3 → c ≠ c4 → H c = h c := by
  intro c q1 q2 q3 q4
  rw [← hH, upd_ne q4, upd_ne q3, upd_ne q2, upd_ne q1]
 rw [hH]
 clear hH
 simp only [push_cast, simprocAttr, k1, k2]
 refine (size_spec a).to ?_
 simp only [push_cast, simprocAttr, k1, k2]
 refine (size_spec b).to ?_
 have hbz := div_zero_iff b hb
 have hz : (((BitVec.ofNat 32 b.toInt.natAbs).toNat : Int) = 0) = False := by rw [size_nat]; simp; omega
 simp only [push_cast, simprocAttr, k1, k2, hz]
 refine (size_spec a).to ?_
 simp only [push_cast, simprocAttr, k1, k2, hz]
 refine (size_spec b).to ?_
 simp only [push_cast, simprocAttr, k1, k2, hz]
 have hq : BitVec.ofInt 32 (((BitVec.ofNat 32 a.toInt.natAbs).toNat : Int) / ((BitVec.ofNat 32 b.toInt.natAbs).toNat : Int)) = BitVec.ofNat 32 (a.toInt.natAbs / b.toInt.natAbs) := by
  rw [size_nat, size_nat, ← Int.natCast_ediv, BitVec.ofInt_natCast]
 have hm : (((BitVec.ofNat 32 a.toInt.natAbs).toNat : Int) % ((BitVec.ofNat 32 b.toInt.natAbs).toNat : Int)) = ((BitVec.ofNat 32 (a.toInt.natAbs % b.toInt.natAbs)).toNat : Int) := by
  have h1 := abs_le a
  have h2 : a.toInt.natAbs % b.toInt.natAbs ≤ a.toInt.natAbs := Nat.mod_le _ _
  rw [size_nat, size_nat, ← Int.natCast_emod]
  congr 1
  rw [BitVec.toNat_ofNat]
  exact (Nat.mod_eq_of_lt (by omega)).symm
 rw [hq, hm]
 obtain ⟨q, hqq⟩ : ∃ q, BitVec.ofNat 32 (a.toInt.natAbs / b.toInt.natAbs) = q := ⟨_, rfl⟩
 obtain ⟨r, hrr⟩ : ∃ r, BitVec.ofNat 32 (a.toInt.natAbs % b.toInt.natAbs) = r := ⟨_, rfl⟩
 have q1 := quo_sign a b
 have r1 := rem_sign a b
 rw [hqq] at q1 ⊢
 rw [hrr] at r1 ⊢
 simp only [push_cast, simprocAttr, k3]
 obtain ⟨H1, e1⟩ : ∃ H1, upd H c3 (cell1 q) = H1 := ⟨_, rfl⟩
 have l1 : H1 c1 = some (cell1 a) := by rw [← e1, upd_ne (Ne.symm n31), k1]
 have l2 : H1 c2 = some (cell1 b) := by rw [← e1, upd_ne (Ne.symm n32), k2]
 have l3 : H1 c3 = some (cell1 q) := by rw [← e1, upd_same]
 have l4 : H1 c4 = some (cell1 0) := by rw [← e1, upd_ne n4, k4]
 have ls : ∀ c, c ≠ c1 → c ≠ c2 → c ≠ c3 → c ≠ c4 → H1 c = h c := by
  intro c q1 q2 q3 q4
  rw [← e1, upd_ne q3, hs c q1 q2 q3 q4]
 rw [e1]
 clear e1
 simp only [push_cast, simprocAttr, l4]
 obtain ⟨H2, e2⟩ : ∃ H2, upd H1 c4 (cell1 r) = H2 := ⟨_, rfl⟩
 have m1 : H2 c1 = some (cell1 a) := by rw [← e2, upd_ne (Ne.symm n41), l1]
 have m2 : H2 c2 = some (cell1 b) := by rw [← e2, upd_ne (Ne.symm n42), l2]
 have m3 : H2 c3 = some (cell1 q) := by rw [← e2, upd_ne (Ne.symm n4), l3]
 have m4 : H2 c4 = some (cell1 r) := by rw [← e2, upd_same]
 have ms : ∀ c, c ≠ c1 → c ≠ c2 → c ≠ c3 → c ≠ c4 → H2 c = h c := by
  intro c q1 q2 q3 q4
  rw [← e2, upd_ne q4, ls c q1 q2 q3 q4]
 rw [e2]
 clear e2
 refine ⟨by rw [if_neg (by rw [hz]; exact id), hm, hrr], SpecD.mono (divided1_spec a b q r _ _ m1 m2 m3 m4 (Ne.symm n31) (Ne.symm n4) q1 r1) ?_⟩
 rintro _ h5 ⟨p1, p2, p3⟩
 simp only [push_cast, simprocAttr, p1, p2]
 intro c x hc
 have hne : ∀ d, h d = none → c ≠ d := fun d hd e => by rw [e, hd] at hc; cases hc
 have f1 := hne _ h1
 have f2 := hne _ h20
 have f3 := hne _ h30
 have f4 := hne _ h40
 rw [p3 c f3 f4, ms c f1 f2 f3 f4]
 exact hc
end Go.Ab
end
section
namespace Go.Ab
open Go.Proofs
variable {G : Glo} {h : Heap}
theorem toNat_z {b : BitVec 32} (hb : ¬ b = 0#32) : ((b.toNat : Int) == 0) = false ∧ ((b.toNat : Int) = 0) = False := by
 have : ((b.toNat : Int) == 0) = false := by
  rw [beq_eq_false_iff_ne]
  intro e
  exact hb (by rw [← BitVec.toNat_inj]; simpa using e)
 exact ⟨this, by simpa using this⟩
theorem udiv_int (a b : BitVec 32) : BitVec.ofInt 32 ((a.toNat : Int) / (b.toNat : Int)) = a / b := by
 rw [← Int.natCast_ediv, BitVec.ofInt_natCast]
 apply BitVec.eq_of_toNat_eq
 have := a.isLt
 have h2 : a.toNat / b.toNat ≤ a.toNat := Nat.div_le_self _ _
 rw [BitVec.toNat_ofNat, BitVec.toNat_udiv, Nat.mod_eq_of_lt (by omega)]
theorem umod_int (a b : BitVec 32) : ((a.toNat : Int) % (b.toNat : Int)) = ((a % b).toNat : Int) := by
 rw [BitVec.toNat_umod, Int.natCast_emod]
def quoN (a b : BitVec 32) (s : Bool) : BitVec 32 := if b = 0#32 then 0xffffffff#32 else if s then BitVec.ofInt 32 (a.toInt.tdiv b.toInt) else a / b
def remN (a b : BitVec 32) (s : Bool) : BitVec 32 := if b = 0#32 then a else if s then BitVec.ofInt 32 (a.toInt.tmod b.toInt) else a % b
theorem quotient_spec (a b : BitVec 32) (s : Bool) : Spec Tryz.prog G 169 [.int .u32 a.toNat, .int .u32 b.toNat, .bool s] h (Is (.tup [.int .u32 (quoN a b s).toNat, .int .u32 (remN a b s).toNat]) h) := by
 by_cases hb : b = 0#32
 ·have h1 : quoN a b s = 0xffffffff#32 := by rw [quoN, if_pos hb]
  have h2 : remN a b s = a := by rw [remN, if_pos hb]
  have hb0 : ((b.toNat : Int) == 0) = true := by rw [hb]; rfl
  obtain ⟨v, hv⟩ : ∃ v, (0xffffffff#32) = v := ⟨_, rfl⟩
  rw [h1, h2, hv]
  refine Spec.is C169ok rfl ?_
  simp only [push_cast, simprocAttr, hb0]
  rw [← hv]; rfl
 ·have h1 : quoN a b s = if s then BitVec.ofInt 32 (a.toInt.tdiv b.toInt) else a / b := by rw [quoN, if_neg hb]
  have h2 : remN a b s = if s then BitVec.ofInt 32 (a.toInt.tmod b.toInt) else a % b := by rw [remN, if_neg hb]
  obtain ⟨hb0, hb1⟩ := toNat_z hb
  rw [h1, h2]
  cases s with
  | true =>
   refine Spec.is C169ok rfl ?_
   simp only [push_cast, simprocAttr, hb0, hb1]
   refine (divided_spec a b hb).to ?_
   simp only [push_cast, simprocAttr]
  | false =>
   refine Spec.is C169ok rfl ?_
   simp only [push_cast, simprocAttr, hb0, hb1]
   rw [udiv_int, umod_int]
theorem Do_md (op : Int) (a b : BitVec 32) : Spec Tryz.prog G 161 [.int .i64 op, .int .u32 a.toNat, .int .u32 b.toNat] h (Is (.tup [.int .u32 (mdN op a b).toNat, .int .i64 (mdE op)]) h) := by
 by_cases hr : 50 ≤ op ∧ op ≤ 57
 ·have hE : mdE op = 0 := by rw [mdE, if_pos hr]
  rw [hE]
  have hc : op = 50 ∨ op = 51 ∨ op = 52 ∨ op = 53 ∨ op = 54 ∨ op = 55 ∨ op = 56 ∨ op = 57 := by omega
  rcases hc with rfl | rfl | rfl | rfl | rfl | rfl | rfl | rfl
  ·refine Spec.is C161ok rfl ?_
   simp only [push_cast, simprocAttr]
   rfl
  ·refine Spec.is C161ok rfl ?_
   simp only [push_cast, simprocAttr]
   refine (upper_spec a b true true).to ?_
   simp only [push_cast, simprocAttr]
   rfl
  ·refine Spec.is C161ok rfl ?_
   simp only [push_cast, simprocAttr]
   refine (upper_spec a b true false).to ?_
   simp only [push_cast, simprocAttr]
   rfl
  ·refine Spec.is C161ok rfl ?_
   simp only [push_cast, simprocAttr]
   refine (upper_spec a b false false).to ?_
   simp only [push_cast, simprocAttr]
   show _ = AV.tup [.int .u32 (BitVec.ofNat 32 (a.toNat * b.toNat / 4294967296)).toNat, _]
   rw [← BitVec.ofInt_natCast]; rfl
  ·refine Spec.is C161ok rfl ?_
   simp only [push_cast, simprocAttr]
   refine (quotient_spec a b true).to ?_
   simp only [push_cast, simprocAttr]
   rfl
  ·refine Spec.is C161ok rfl ?_
   simp only [push_cast, simprocAttr]
   refine (quotient_spec a b false).to ?_
   simp only [push_cast, simprocAttr]
   rfl
  ·refine Spec.is C161ok rfl ?_
   simp only [push_cast, simprocAttr]
   refine (quotient_spec a b true).to ?_
   simp only [push_cast, simprocAttr]
   rfl
  ·refine Spec.is C161ok rfl ?_
   simp only [push_cast, simprocAttr]
   refine (quotient_spec a b false).to ?_
   simp only [push_cast, simprocAttr]
   rfl
 ·have hE : mdE op = 9 := by rw [mdE, if_neg hr]
  have e0 : (op = 50) = False := by simp; omega
  have e1 : (op = 51) = False := by simp; omega
  have e2 : (op = 52) = False := by simp; omega
  have e3 : (op = 53) = False := by simp; omega
  have e4 : (op = 54) = False := by simp; omega
  have e5 : (op = 55) = False := by simp; omega
  have e6 : (op = 56) = False := by simp; omega
  have e7 : (op = 57) = False := by simp; omega
  have hN : mdN op a b = 0 := by simp only [mdN, e0, e1, e2, e3, e4, e5, e6, e7, if_false]
  rw [hE, hN]
  refine Spec.is C161ok rfl ?_
  simp only [push_cast, simprocAttr, e0, e1, e2, e3, e4, e5, e6, e7]
theorem prod_le {x y : Int} {M N : Nat} (hx : x.natAbs ≤ M) (hy : y.natAbs ≤ N) : (x * y).natAbs ≤ M * N := by
 rw [Int.natAbs_mul]; exact Nat.mul_le_mul hx hy
theorem wide64 (a b : BitVec 32) : (BitVec.setWidth 64 a * BitVec.setWidth 64 b).toNat = a.toNat * b.toNat := by
 have la := a.isLt
 have lb := b.isLt
 rw [BitVec.toNat_mul, sw64, sw64, Nat.mod_eq_of_lt]
 have := Nat.mul_le_mul (show a.toNat ≤ 4294967295 by omega) (show b.toNat ≤ 4294967295 by omega)
 omega
theorem rDo_md (op : Int) (a b : BitVec 32) (hr : 50 ≤ op ∧ op ≤ 57) : Spec Tryz.prog G 88 [.int .i64 op, .int .u32 a.toNat, .int .u32 b.toNat] h (Is (.int .u32 (mdN op a b).toNat) h) := by
 have la := a.isLt
 have lb := b.isLt
 have ba := abs_le a
 have bb := abs_le b
 have p1 := prod_le ba bb
 have p2 := prod_le ba (show ((b.toNat : Int)).natAbs ≤ 4294967295 by omega)
 have wm := wide64 a b
 have hc : op = 50 ∨ op = 51 ∨ op = 52 ∨ op = 53 ∨ op = 54 ∨ op = 55 ∨ op = 56 ∨ op = 57 := by omega
 rcases hc with rfl | rfl | rfl | rfl | rfl | rfl | rfl | rfl
 all_goals
  refine Spec.is C88ok rfl ?_
  simp only [push_cast, simprocAttr]
  refine (Signed_spec a).to ?_
  simp only [push_cast, simprocAttr]
  refine (Signed_spec b).to ?_
  simp only [push_cast, simprocAttr]
 ·rw [wm, show (4294967296 : Int) = ((4294967296 : Nat) : Int) from rfl, tmod_nat, BitVec.ofInt_natCast]
  congr 2
  show _ = (a * b).toNat
  rw [BitVec.toNat_mul, BitVec.toNat_ofNat]; simp
 ·rw [wrap_i64 (x := a.toInt * b.toInt) (by omega) (by omega)]
  refine (high_spec (a.toInt * b.toInt) (by omega) (by omega)).to ?_
  simp only [push_cast, simprocAttr]
  rfl
 ·rw [wrap_i64 (x := a.toInt * (b.toNat : Int)) (by omega) (by omega)]
  refine (high_spec (a.toInt * (b.toNat : Int)) (by omega) (by omega)).to ?_
  simp only [push_cast, simprocAttr]
  rfl
 ·rw [wm, show (4294967296 : Int) = ((4294967296 : Nat) : Int) from rfl, tdiv_nat, BitVec.ofInt_natCast]
  congr 2
  show _ = (BitVec.ofNat 32 (a.toNat * b.toNat / 4294967296)).toNat
  rw [BitVec.toNat_setWidth, BitVec.toNat_ofNat, BitVec.toNat_ofNat]
  omega
 ·by_cases hb : b = 0#32
  ·have hb0 : (b.toNat : Int) = 0 := by rw [hb]; rfl
   refine ⟨fun _ => ?_, fun q => absurd hb0 q⟩
   show _ = AV.int .u32 (if b = 0#32 then 0xffffffff#32 else _ : BitVec 32).toNat
   rw [if_pos hb]; rfl
  ·refine ⟨fun q => absurd q (by rw [(toNat_z hb).2]; exact id), fun _ => ⟨div_zero_iff b hb, ?_⟩⟩
   have h1 := Int.natAbs_tdiv_le_natAbs a.toInt b.toInt
   rw [wrap_i64 (by omega) (by omega)]
   refine (Word_spec _).to ?_
   simp only [push_cast, simprocAttr]
   show _ = AV.int .u32 (if b = 0#32 then _ else _ : BitVec 32).toNat
   rw [if_neg hb]
 ·by_cases hb : b = 0#32
  ·have hb0 : (b.toNat : Int) = 0 := by rw [hb]; rfl
   refine ⟨fun _ => ?_, fun q => absurd hb0 q⟩
   show _ = AV.int .u32 (if b = 0#32 then 0xffffffff#32 else _ : BitVec 32).toNat
   rw [if_pos hb]; rfl
  ·refine ⟨fun q => absurd q (by rw [(toNat_z hb).2]; exact id), fun _ => ⟨by rw [(toNat_z hb).2]; exact id, ?_⟩⟩
   show _ = AV.int .u32 (if b = 0#32 then _ else _ : BitVec 32).toNat
   rw [if_neg hb, udiv_int]
 ·by_cases hb : b = 0#32
  ·have hb0 : (b.toNat : Int) = 0 := by rw [hb]; rfl
   refine ⟨fun _ => ?_, fun q => absurd hb0 q⟩
   show _ = AV.int .u32 (if b = 0#32 then a else _ : BitVec 32).toNat
   rw [if_pos hb]
  ·refine ⟨fun q => absurd q (by rw [(toNat_z hb).2]; exact id), fun _ => ⟨div_zero_iff b hb, (Word_spec _).to ?_⟩⟩
   simp only [push_cast, simprocAttr]
   show _ = AV.int .u32 (if b = 0#32 then _ else _ : BitVec 32).toNat
   rw [if_neg hb]
 ·by_cases hb : b = 0#32
  ·have hb0 : (b.toNat : Int) = 0 := by rw [hb]; rfl
   refine ⟨fun _ => ?_, fun q => absurd hb0 q⟩
   show _ = AV.int .u32 (if b = 0#32 then a else _ : BitVec 32).toNat
   rw [if_pos hb]
  ·refine ⟨fun q => absurd q (by rw [(toNat_z hb).2]; exact id), fun _ => ⟨by rw [(toNat_z hb).2]; exact id, ?_⟩⟩
   show _ = AV.int .u32 (if b = 0#32 then _ else _ : BitVec 32).toNat
   rw [if_neg hb, umod_int]
theorem fld1 (a : BitVec 32) (k : Nat) : fld a k 1 = (a.toNat.testBit k).toNat := by
 unfold fld
 rw [Nat.testBit_eq_decide_div_mod_eq]
 have : a.toNat / 2 ^ k % 2 < 2 := Nat.mod_lt _ (by omega)
 by_cases h1 : a.toNat / 2 ^ k % 2 = 1
 ·simp [h1]
 ·have : a.toNat / 2 ^ k % 2 = 0 := by omega
  simp [this]
theorem bits_spec (a b x : BitVec 32) (f0 f1 f2 : Nat) (hf : ∀ i, i < 32 → [f0, f1, f2].getD (fld a i 1 + fld b i 1) 0 = (x.toNat.testBit i).toNat) (hfl : f0 ≤ 1 ∧ f1 ≤ 1 ∧ f2 ≤ 1) :
  Spec Tryz.prog G 123 [.int .u32 a.toNat, .int .u32 b.toNat, .ro [.int .u64 f0, .int .u64 f1, .int .u64 f2] 3] h (Is (.int .u32 x.toNat) h) := by
 refine Spec.is C123ok rfl ?_
 simp only [push_cast, simprocAttr]
 have hx := x.isLt
 refine lpc.rel [0, 1, 2, 7, 8] (fun m ρ h' => ∃ k s, m = 32 - k ∧ k ≤ 32 ∧ h = h' ∧ s = x.toNat % 2 ^ k ∧ ρ = [(0, .int .u32 a.toNat), (1, .int .u32 b.toNat), (2, .ro [.int .u64 f0, .int .u64 f1, .int .u64 f2] 3), (7, .int .u64 (s : Int)), (8, .int .i64 (k : Int))]) ⟨32, 0, 0, rfl, by omega, rfl, by simp [Nat.mod_one], rfl⟩ ?_
 rintro m _ _ ⟨k, s, rfl, hk, rfl, hsx, rfl⟩
 simp only [push_cast, simprocAttr]
 refine ⟨fun hk2 => (Bits_spec a k 1 (by omega) (by omega)).to ?_, fun hk2 => ?_⟩
 ·simp only [push_cast, simprocAttr]
  refine (Bits_spec b k 1 (by omega) (by omega)).to ?_
  simp only [push_cast, simprocAttr]
  have hfk := hf k (by omega)
  have l1 := fld_lt a k 1
  have l2 := fld_lt b k 1
  obtain ⟨u, hu⟩ : ∃ u, fld a k 1 + fld b k 1 = u := ⟨_, rfl⟩
  have eu : (BitVec.ofNat 32 (fld a k 1) + BitVec.ofNat 32 (fld b k 1)).toNat = u := by
   rw [BitVec.toNat_add, BitVec.toNat_ofNat, BitVec.toNat_ofNat]; omega
  rw [hu] at hfk
  rw [eu]
  have hu3 : u < 3 := by omega
  have hs2 : x.toNat % 2 ^ (k + 1) = s + 2 ^ k * (x.toNat.testBit k).toNat := by rw [Nat.pow_succ, Nat.mod_mul, ← hsx, ← fld1]; simp [fld]
  have hp := Nat.pow_le_pow_right (show 0 < 2 by omega) (show k ≤ 31 by omega)
  have hsl : s < 2 ^ k := hsx ▸ Nat.mod_lt _ (Nat.two_pow_pos k)
  obtain ⟨P, hP⟩ : ∃ P, 2 ^ k = P := ⟨_, rfl⟩
  rw [hP] at hs2 hp hsl
  obtain ⟨f, hff, hf1⟩ : ∃ f : Nat, [AV.int .u64 (f0 : Int), AV.int .u64 (f1 : Int), AV.int .u64 (f2 : Int)][u]? = some (.int .u64 (f : Int)) ∧ f = (x.toNat.testBit k).toNat := by
   match u, hu3, hfk with
   | 0, _, hfk => exact ⟨f0, rfl, hfk⟩
   | 1, _, hfk => exact ⟨f1, rfl, hfk⟩
   | 2, _, hfk => exact ⟨f2, rfl, hfk⟩
  refine ⟨by omega, ?_⟩
  simp only [push_cast, simprocAttr, hff]
  refine (PowV (by omega) hP).to ?_
  have hfb : f ≤ 1 := by rw [hf1]; cases x.toNat.testBit k <;> simp
  rw [← hf1] at hs2
  have h01 : f = 0 ∨ f = 1 := by omega
  clear hf1 hfb
  rcases h01 with rfl | rfl
  ·simp (disch := omega) only [push_cast, simprocAttr, wrap_i64, toNat_ofInt64, Nat.min_eq_left, Int.toNat_of_nonneg, hff]
   refine ⟨by rw [if_pos (by omega)], ?_⟩
   rw [Int.zero_mul, Int.add_zero]
   exact ⟨_, _, by omega, .refl _, k + 1, s, rfl, by omega, rfl, by omega, rfl⟩
  ·simp (disch := omega) only [push_cast, simprocAttr, wrap_i64, toNat_ofInt64, Nat.min_eq_left, Int.toNat_of_nonneg, hff]
   refine ⟨by rw [if_pos (by omega)], ?_⟩
   rw [show (s : Int) + 1 * (P : Int) = ((s + P : Nat) : Int) by omega]
   exact ⟨_, _, by omega, .refl _, k + 1, s + P, rfl, by omega, rfl, by omega, rfl⟩
 ·obtain rfl : k = 32 := by omega
  rw [BitVec.ofInt_natCast, hsx, Nat.mod_eq_of_lt hx]
  simp
theorem rPlain_spec (op : Int) (hr : 19 ≤ op ∧ op ≤ 37) : Spec Tryz.prog G 115 [.int .i64 op] h (Is (.int .i64 (plainN op)) h) := by
 refine Spec.is C115ok rfl ?_
 simp only [push_cast, simprocAttr]
 refine (rHas7_spec op).to ?_
 have e1 : decide (19 ≤ op) = true := decide_eq_true hr.1
 have e2 : decide (op ≤ 37) = true := decide_eq_true hr.2
 simp only [push_cast, simprocAttr, e1, e2]
 have hc : op = 19 ∨ op = 20 ∨ op = 21 ∨ op = 22 ∨ op = 23 ∨ op = 24 ∨ op = 25 ∨ op = 26 ∨ op = 27 ∨ 27 < op := by omega
 rcases hc with rfl | rfl | rfl | rfl | rfl | rfl | rfl | rfl | rfl | hc
 any_goals first
  | (simp (disch := omega) only [push_cast, simprocAttr, wrap_i64, toNat_ofInt64, Nat.min_eq_left, Int.toNat_of_nonneg]; done)
  | (simp (disch := omega) only [push_cast, simprocAttr, wrap_i64, toNat_ofInt64, Nat.min_eq_left, Int.toNat_of_nonneg]; rfl)
 have h27 : (op ≤ 27) = False := by simp; omega
 simp only [push_cast, simprocAttr, h27]
 unfold plainN
 rw [if_neg (by omega), if_neg (by omega), if_neg (by omega), if_neg (by omega), if_neg (by omega), if_neg (by omega), if_neg (by omega), if_neg (by omega), if_neg (by omega), if_pos hr]
theorem rDo_alu (op : Int) (a b : BitVec 32) (hr : 19 ≤ op ∧ op ≤ 37) : Spec Tryz.prog G 89 [.int .i64 op, .int .u32 a.toNat, .int .u32 b.toNat] h (Is (.int .u32 (aluN op a b).toNat) h) := by
 have ba := abs_le a
 have bb := abs_le b
 have la := a.isLt
 have lb := b.isLt
 have hp : 28 ≤ plainN op ∧ plainN op ≤ 37 := by rcases plain_range op with h1 | h1 <;> omega
 have hP := rPlain_spec (G := G) (h := h) op hr
 rw [aluN]
 generalize plainN op = p at hp hP ⊢
 have hc : p = 28 ∨ p = 29 ∨ p = 30 ∨ p = 31 ∨ p = 32 ∨ p = 33 ∨ p = 34 ∨ p = 35 ∨ p = 36 ∨ p = 37 := by omega
 refine Spec.is C89ok rfl ?_
 simp (disch := omega) only [push_cast, simprocAttr, wrap_i64, toNat_ofInt64, Nat.min_eq_left, Int.toNat_of_nonneg]
 refine (Signed_spec a).to ?_
 simp only [push_cast, simprocAttr]
 refine (Signed_spec b).to ?_
 simp only [push_cast, simprocAttr]
 refine hP.to ?_
 clear hP
 obtain ⟨n, hn⟩ : ∃ n, b.toNat % 32 = n := ⟨_, rfl⟩
 have hn31 : n ≤ 31 := by omega
 have es : IntKind.i64.wrap ((b.toNat : Int).tmod 32) = (n : Int) := by
  rw [show (32 : Int) = ((32 : Nat) : Int) from rfl, tmod_nat, wrap_i64 (by omega) (by omega), hn]
 obtain ⟨P, hP⟩ : ∃ P, 2 ^ n = P := ⟨_, rfl⟩
 have hP0 : 0 < P := hP ▸ Nat.two_pow_pos n
 have hP2 : P ≤ 2 ^ 31 := hP ▸ Nat.pow_le_pow_right (by omega) hn31
 have hPz : ((P : Int) = 0) = False := by simp; omega
 rcases hc with rfl | rfl | rfl | rfl | rfl | rfl | rfl | rfl | rfl | rfl
 all_goals simp only [push_cast, simprocAttr]
 ·rw [wrap_i64 (by omega) (by omega)]
  refine (Word_spec _).to ?_
  simp only [push_cast, simprocAttr]
  rw [BitVec.ofInt_add, BitVec.ofInt_toInt, BitVec.ofInt_toInt]
  simp [aluP]
 ·rw [wrap_i64 (by omega) (by omega)]
  refine (Word_spec _).to ?_
  simp only [push_cast, simprocAttr]
  rw [ofInt_sub', BitVec.ofInt_toInt, BitVec.ofInt_toInt]
  simp [aluP]
 ·rw [es]
  refine (PowV (by omega) hP).to ?_
  have e1 : aluP 30 a b = a <<< n := by simp [aluP, hn]
  rw [e1]
  have e2 : (BitVec.setWidth 64 a * BitVec.ofInt 64 (P : Int)).toNat = a.toNat * P := by
   rw [BitVec.ofInt_natCast]
   have := Nat.mul_le_mul (show a.toNat ≤ 4294967295 by omega) hP2
   rw [BitVec.toNat_mul, sw64, BitVec.toNat_ofNat, Nat.mod_eq_of_lt (show P < 2 ^ 64 by omega), Nat.mod_eq_of_lt (by omega)]
  simp only [push_cast, simprocAttr]
  rw [e2, show (4294967296 : Int) = ((4294967296 : Nat) : Int) from rfl, tmod_nat, BitVec.ofInt_natCast]
  congr 2
  rw [BitVec.toNat_shiftLeft, Nat.shiftLeft_eq, hP, BitVec.toNat_ofNat]
  simp
 ·refine (rone_spec _).to ?_
  simp only [push_cast, simprocAttr]
  simp [aluP]
 ·refine (rone_spec _).to ?_
  simp only [push_cast, simprocAttr]
  simp [aluP]
 ·refine (bits_spec a b (a ^^^ b) 0 1 0 (fun i _ => ?_) (by omega)).to ?_
  ·rw [fld1, fld1, BitVec.toNat_xor, Nat.testBit_xor]
   cases a.toNat.testBit i <;> cases b.toNat.testBit i <;> rfl
  ·simp only [push_cast, simprocAttr]
   simp [aluP]
 ·rw [es]
  refine (PowV (by omega) hP).to ?_
  have e1 : aluP 34 a b = a >>> n := by simp [aluP, hn]
  rw [e1]
  simp only [push_cast, simprocAttr, hPz]
  congr 2
  have := Nat.div_le_self a.toNat P
  rw [sw64, ← Int.natCast_ediv, BitVec.ofInt_natCast, BitVec.toNat_setWidth, BitVec.toNat_ofNat, BitVec.toNat_ushiftRight, Nat.shiftRight_eq_div_pow, hP]
  generalize a.toNat / P = q at *
  omega
 ·rw [es]
  have e1 : aluP 35 a b = a.sshiftRight n := by simp [aluP, hn]
  rw [e1]
  refine (rright_spec a.toInt n (by have := ba; clear es; omega) (by have := BitVec.toInt_lt (x := a); clear es; omega) hn31).to ?_
  simp only [push_cast, simprocAttr]
  refine (Word_spec _).to ?_
  simp only [push_cast, simprocAttr]
  rw [← sar_eq, Int.fdiv_eq_ediv_of_nonneg _ (by rw [pow_int]; exact Int.natCast_nonneg _)]
 ·refine (bits_spec a b (a ||| b) 0 1 1 (fun i _ => ?_) (by omega)).to ?_
  ·rw [fld1, fld1, BitVec.toNat_or, Nat.testBit_or]
   cases a.toNat.testBit i <;> cases b.toNat.testBit i <;> rfl
  ·simp only [push_cast, simprocAttr]
   simp [aluP]
 ·refine (bits_spec a b (a &&& b) 0 0 1 (fun i _ => ?_) (by omega)).to ?_
  ·rw [fld1, fld1, BitVec.toNat_and, Nat.testBit_and]
   cases a.toNat.testBit i <;> cases b.toNat.testBit i <;> rfl
  ·simp only [push_cast, simprocAttr]
   simp [aluP]
def reckN (op : Int) (a b : BitVec 32) : BitVec 32 := if 50 ≤ op ∧ op ≤ 57 then mdN op a b else aluN op a b
theorem Reckon_spec (op : Int) (a b : BitVec 32) (hr : reckonsN op = true) : Spec Tryz.prog G 47 [.int .i64 op, .int .u32 a.toNat, .int .u32 b.toNat] h (Is (.int .u32 (reckN op a b).toNat) h) := by
 refine Spec.is C47ok rfl ?_
 simp only [push_cast, simprocAttr]
 refine (rHas8_spec op).to ?_
 simp only [reckonsN, Bool.or_eq_true, Bool.and_eq_true, decide_eq_true_eq] at hr
 unfold reckN
 by_cases hm : 50 ≤ op ∧ op ≤ 57
 ·rw [if_pos hm, decide_eq_true hm.1, decide_eq_true hm.2]
  simp only [push_cast, simprocAttr]
  refine (rDo_md op a b hm).to ?_
  simp only [push_cast, simprocAttr]
 ·have : (decide (50 ≤ op) && decide (op ≤ 57)) = false := by simp; omega
  rw [if_neg hm]
  simp only [push_cast, simprocAttr, this]
  refine (rDo_alu op a b (by omega)).to ?_
  simp only [push_cast, simprocAttr]
def pureN (o : IOp) (a b : BitVec 32) : BitVec 32 × Bool :=
 if o.code = 2 then (o.imm, true) else if o.code = 3 then (if reckonsN o.imm.toNat then (reckN o.imm.toNat a b, true) else (0, false)) else (0, false)
theorem Pure_spec (o : IOp) (a b : BitVec 32) : Spec Tryz.prog G 150 [.agg o.cells, .int .u32 a.toNat, .int .u32 b.toNat] h (Is (.tup [.int .u32 (pureN o a b).1.toNat, .bool (pureN o a b).2]) h) := by
 obtain ⟨n, hn⟩ : ∃ n : Int, (o.imm.toNat : Int) = n := ⟨_, rfl⟩
 have hN : pureN o a b = if o.code = 2 then (o.imm, true) else if o.code = 3 then (if reckonsN n then (reckN n a b, true) else (0, false)) else (0, false) := by rw [← hn]; rfl
 generalize pureN o a b = N at hN ⊢
 have hw : IntKind.i64.wrap n = n := by rw [← hn]; exact i64_toNat _
 refine Spec.is C150ok rfl ?_
 simp only [push_cast, simprocAttr]
 by_cases h2 : o.code = 2
 ·rw [if_pos h2] at hN
  subst hN
  simp only [push_cast, simprocAttr, h2]
 ·rw [if_neg h2] at hN
  have h2' : (o.code = 2) = False := by simp [h2]
  by_cases h3 : o.code = 3
  ·rw [if_pos h3] at hN
   simp only [push_cast, simprocAttr, h2', h3, hn]
   refine (Reckons_spec n).to ?_
   cases hr : reckonsN n with
   | false =>
    rw [hr] at hN
    subst hN
    simp only [push_cast, simprocAttr]
   | true =>
    rw [hr] at hN
    subst hN
    simp only [push_cast, simprocAttr, hn, hw]
    refine (Do_alu n a b).to ?_
    have hr' := hr
    simp only [reckonsN, Bool.or_eq_true, Bool.and_eq_true, decide_eq_true_eq] at hr'
    by_cases hm : 50 ≤ n ∧ n ≤ 57
    ·have e1 : aluE n = 9 := by rw [aluE, if_neg (by omega)]
     have e2 : reckN n a b = mdN n a b := by rw [reckN, if_pos hm]
     have e3 : mdE n = 0 := by rw [mdE, if_pos hm]
     rw [e1, e2]
     simp only [push_cast, simprocAttr, hn, hw]
     refine (Do_md n a b).to ?_
     simp only [push_cast, simprocAttr, e3]
    ·have e1 : aluE n = 0 := by rw [aluE, if_pos (by omega)]
     have e2 : reckN n a b = aluN n a b := by rw [reckN, if_neg hm]
     rw [e1, e2]
     simp only [push_cast, simprocAttr, hn]
  ·rw [if_neg h3] at hN
   subst hN
   have h3' : (o.code = 3) = False := by simp [h3]
   have h3'' : (o.code != 3) = true := by simp [h3]
   simp only [push_cast, simprocAttr, h2', h3', h3'']
end Go.Ab
end

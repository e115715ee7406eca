/- Joined. -/
import Derived.Test.YtknamhmjhmdikaaDoorSG2
import Derived.Test.YtknamhmjhmdikaaDoorProg
set_option linter.unusedSimpArgs false
set_option linter.unusedVariables false
set_option maxRecDepth 10000
section
namespace Go.Ab
open Go.Proofs Go.Sc
set_option maxRecDepth 100000
abbrev C4_0 := Ro [Br 3 t1,As 4 kF]
abbrev C4_1 := Ro [Mv 12 t0,Ln 13 t12,Ca 14 10 [t13],Un 15 .not t14,Mv 16 t15,Mvf 17 16 t0,Lnf 18 16 t17,Bnf 19 16 .gtr t18 (kI 1024),Pk 20 t16 kT t19,Mv 21 t20,Faf 22 21 1 t3,Ldf 23 21 none t22,Lnf 24 21 t23,Bnf 25 21 .gtr t24 (kI 100),Pk 26 t21 kT t25]
abbrev C4_2 := Ro [Ca 27 11 [],As 4 t27]
abbrev C4_3 := Sq [4] C4_2 .ret
abbrev C4_4 := Cd t26 C4_3 .skip
abbrev C4_5 := Sq [0,3,26] C4_1 C4_4
abbrev C4_6 := Ro [Mv 28 t0,Ca 29 12 [t28],As 5 t29]
abbrev C4_7 := Ro [Mv 30 t5,Fa 31 0 t3,Ld 32 none t31,Fa 33 1 t3,Ld 34 none t33,Fa 35 2 t3,Ld 36 none t35,Ca 37 13 [t30,t32,t34,t36],As 6 t37]
abbrev C4_8 := Ro [Mv 38 t5,Mv 39 t6,Ca 40 14 [t38,t39],As 7 t40]
abbrev C4_9 := Ro [⟨(some 41),none,.e (.mks 1 [.bool false] (kI 16) (kI 16))⟩,As 8 t41]
abbrev C4_10 := Ro [As 9 (kI 0)]
abbrev C4_11 := Ro [Mv 42 t9,Mv 43 t6,Ln 44 t43,Bn 45 .lss t42 t44]
abbrev C4_12 := Cd t45 .skip (.exit 0)
abbrev C4_13 := Sq [5,6,7,8,9,45] C4_11 C4_12
abbrev C4_14 := Dr [Mv 48 t6,Mv 49 t9,Ix 50 8 t48 t49,Fa 51 1 t50,Ld 52 (some 6) t51,Ca 53 15 [t52],Un 54 .not t53,Mv 55 t54,Mvf 56 55 t9,Bnf 57 55 .add t56 (kI 1),Mvf 58 55 t6,Lnf 59 55 t58,Bnf 60 55 .lss t57 t59,Mvf 61 55 t60,Mvt 62 61 t6,Mvt 63 61 t9,Ixt 64 61 8 t62 t63,Fat 65 61 7 t64,Ldt 66 61 none t65,Mvt 67 61 t6,Mvt 68 61 t9,Bnt 69 61 .add t68 (kI 1),Ixt 70 61 8 t67 t69,Fat 71 61 0 t70,Ldt 72 61 none t71,Bnt 73 61 .neq t66 t72,Mvt 74 61 t73,Mvf 75 74 t6,Mvf 76 74 t9,Ixf 77 74 8 t75 t76,Ldf 78 74 (some 8) t77,Mvf 79 74 t6,Mvf 80 74 t9,Ixf 81 74 8 t79 t80,Faf 82 74 7 t81,Ldf 83 74 none t82,Caf 84 74 16 [t78,t83],Unf 85 74 .not t84,Pkt 86 61 t74 kT t85,Pkf 87 55 t61 t86 kF,Pk 88 t55 kT t87,Mv 89 t88,Mvf 90 89 t5,Mvf 91 89 t6,Mvf 92 89 t9,Ixf 93 89 8 t91 t92,Faf 94 89 0 t93,Ldf 95 89 none t94,Caf 96 89 17 [t90,t95],Bnf 97 89 .lss t96 (kI 0),Pk 98 t89 kT t97] [[],[],[0,1],[2],[3],[4],[5],[6,5],[7],[8,7],[7],[10,7],[9,11,7],[12,7,7],[13],[13],[14,15,13],[16,13],[17,13],[13],[13],[20,13],[19,21,13],[22,13],[23,13],[18,24,13],[25,13,13],[26],[26],[27,28,26],[29,26],[26],[26],[31,32,26],[33,26],[34,26],[30,35,26,26],[36,26],[26,37,13],[13,38,7],[7,39],[40,36],[41],[41],[41],[43,44,41],[45,41],[46,41],[42,47,41,41],[48,41],[41,49]] [(0,[]),(1,[]),(2,[]),(3,[]),(4,[]),(5,[]),(6,[]),(7,[]),(8,[]),(9,[]),(10,[]),(11,[]),(12,[]),(13,[]),(14,[]),(15,[]),(16,[]),(17,[]),(18,[]),(19,[]),(20,[]),(21,[]),(22,[]),(23,[]),(24,[]),(25,[]),(26,[]),(27,[]),(28,[]),(29,[]),(30,[]),(31,[]),(32,[]),(33,[]),(34,[]),(35,[]),(36,[]),(37,[]),(38,[]),(39,[]),(40,[]),(41,[]),(42,[]),(43,[]),(44,[]),(45,[]),(46,[]),(47,[]),(48,[]),(49,[]),(50,[])]
abbrev C4_15 := Ro [As 4 kF]
abbrev C4_16 := Sq [4] C4_15 .ret
abbrev C4_17 := Cd t98 C4_16 .skip
abbrev C4_18 := Sq [5,6,7,8,9,98] C4_14 C4_17
abbrev C4_19 := Ro [Mv 99 t8,Mv 100 t5,Mv 101 t6,Mv 102 t9,Ix 103 8 t101 t102,Fa 104 0 t103,Ld 105 none t104,Ca 106 17 [t100,t105],Ix 107 1 t99 t106,Sxn 1 t107 kT]
abbrev C4_20 := Sq [5,6,7,8,9] C4_18 C4_19
abbrev C4_21 := Bk 1 C4_20
abbrev C4_22 := Ro [Mv 46 t9,Bn 47 .add t46 (kI 1),As 9 t47]
abbrev C4_23 := Sq [5,6,7,8,9] C4_21 C4_22
abbrev C4_24 := Sq [5,6,7,8,9] C4_13 C4_23
abbrev C4_25 : ACode := .loop C4_24
abbrev C4_26 := Bk 0 C4_25
abbrev C4_27 := Sq [5,6,7,8,9] C4_10 C4_26
abbrev C4_28 := Ro [As 10 (kI 0)]
abbrev C4_29 := Ro [As 11 (kI 0)]
abbrev C4_30 := Ro [Mv 108 t11,Bn 109 .lss t108 (kI 16)]
abbrev C4_31 := Cd t109 .skip (.exit 2)
abbrev C4_32 := Sq [7,8,10,11,109] C4_30 C4_31
abbrev C4_33 := Ro [Mv 112 t8,Mv 113 t11,Ix 114 1 t112 t113,Ld 115 none t114]
abbrev C4_34 := Ro [Mv 116 t10,Mv 117 t7,Ln 118 t117,Bn 119 .geq t116 t118,Mv 120 t119,Mvf 121 120 t7,Mvf 122 120 t10,Ixf 123 120 1 t121 t122,Ldf 124 120 none t123,Mvf 125 120 t11,Bnf 126 120 .neq t124 t125,Pk 127 t120 kT t126]
abbrev C4_35 := Ro [As 4 kF]
abbrev C4_36 := Sq [4] C4_35 .ret
abbrev C4_37 := Cd t127 C4_36 .skip
abbrev C4_38 := Sq [7,8,10,11,127] C4_34 C4_37
abbrev C4_39 := Ro [Mv 128 t10,Bn 129 .add t128 (kI 1),As 10 t129]
abbrev C4_40 := Sq [7,8,10,11] C4_38 C4_39
abbrev C4_41 := Cd t115 C4_40 .skip
abbrev C4_42 := Sq [7,8,10,11,115] C4_33 C4_41
abbrev C4_43 := Bk 3 C4_42
abbrev C4_44 := Ro [Mv 110 t11,Bn 111 .add t110 (kI 1),As 11 t111]
abbrev C4_45 := Sq [7,8,10,11] C4_43 C4_44
abbrev C4_46 := Sq [7,8,10,11] C4_32 C4_45
abbrev C4_47 : ACode := .loop C4_46
abbrev C4_48 := Bk 2 C4_47
abbrev C4_49 := Sq [7,8,10,11] C4_29 C4_48
abbrev C4_50 := Ro [Mv 130 t10,Mv 131 t7,Ln 132 t131,Bn 133 .eql t130 t132,Mv 134 t133,Cat 135 134 11 [],Pk 136 t134 t135 kF,As 4 t136]
abbrev C4_51 := Sq [4] C4_50 .ret
abbrev C4_52 := Sq [7,10] C4_49 C4_51
abbrev C4_53 := Sq [7,8,10] C4_28 C4_52
abbrev C4_54 := Sq [7,8] C4_27 C4_53
abbrev C4_55 := Sq [5,6,7,8] C4_9 C4_54
abbrev C4_56 := Sq [5,6,7] C4_8 C4_55
abbrev C4_57 := Sq [5,6] C4_7 C4_56
abbrev C4_58 := Sq [3,5] C4_6 C4_57
abbrev C4_59 := Sq [0,3] C4_5 C4_58
abbrev C4_60 := Sq [0,3] C4_0 C4_59
abbrev C4 := C4_60
abbrev C4r : List RV := [.t 4]
theorem C4ok : Okf Tryd.prog 4 Tryd.f4 C4 C4r := ⟨Tryd.func4, by kernel_rfl, by kernel_rfl, by kernel_rfl⟩

abbrev C10_0 := Ro [As 2 kF]
abbrev C10_1 := Ro [Mv 3 t0,Bn 4 .geq t3 (kI 64),Mv 5 t4,Mvt 6 5 t0,Bnt 7 5 .leq t6 (kI 65536),Pk 8 t5 t7 kF,Mv 9 t8,Mvt 10 9 t0,Bnt 11 9 .rem t10 (kI 64),Bnt 12 9 .eql t11 (kI 0),Pk 13 t9 t12 kF,As 2 t13]
abbrev C10_2 := Sq [2] C10_1 .ret
abbrev C10_3 := Sq [0] C10_0 C10_2
abbrev C10 := C10_3
abbrev C10r : List RV := [.t 2]
theorem C10ok : Okf Tryd.prog 10 Tryd.f10 C10 C10r := ⟨Tryd.func10, by kernel_rfl, by kernel_rfl, by kernel_rfl⟩

abbrev C11_0 := Ro [As 0 kF]
abbrev C11_1 := Ro [Ca 5 23 [(kI 64)],Mv 4 t5,Ex 6 0 t4,Ex 7 1 t4,As 1 t6,As 2 t7]
abbrev C11_2 := Ro [Mv 8 t1,⟨(some 9),none,.e (.bsr 8 [z1,z1,z1,z1,z1,z1,z1,z1] [(0,1,(kY 147)),(1,1,(kY 0)),(2,1,(kY 160)),(3,1,(kY 0)),(4,1,(kY 227)),(5,1,(kY 158)),(6,1,(kY 0)),(7,1,(kY 254))])⟩,Ca 10 24 [t8,(kU 2147483648),t9]]
abbrev C11_3 := Ro [Mv 11 t1,Ca 12 25 [t11,(kU 2147483648),(kI 9)],As 3 t12]
abbrev C11_4 := Ro [Mv 13 t3,Ln 14 t13,Bn 15 .eql t14 (kI 2),Mv 16 t15,Mvt 17 16 t3,Ixt 18 16 8 t17 (kI 1),Fat 19 16 1 t18,Fat 20 16 0 t19,Ldt 21 16 none t20,Bnt 22 16 .eql t21 (kI 6),Pk 23 t16 t22 kF,Mv 24 t23,Mvt 25 24 t3,Ixt 26 24 8 t25 (kI 1),Fat 27 24 7 t26,Ldt 28 24 none t27,Bnt 29 24 .eql t28 (kU 2147483656),Pk 30 t24 t29 kF,Mv 31 t30,Mvt 32 31 t3,Ixt 33 31 8 t32 (kI 0),Fat 34 31 1 t33,Ldt 35 31 (some 6) t34,Cat 36 31 15 [t35],Pk 37 t31 t36 kF,As 0 t37]
abbrev C11_5 := Sq [0] C11_4 .ret
abbrev C11_6 := Sq [3] C11_3 C11_5
abbrev C11_7 := Sq [1] C11_2 C11_6
abbrev C11_8 := Sq [1] C11_1 C11_7
abbrev C11_9 := Sq [] C11_0 C11_8
abbrev C11 := C11_9
abbrev C11r : List RV := [.t 0]
theorem C11ok : Okf Tryd.prog 11 Tryd.f11 C11 C11r := ⟨Tryd.func11, by kernel_rfl, by kernel_rfl, by kernel_rfl⟩

abbrev C12_0 := Ro [As 2 kP]
abbrev C12_1 := Ro [Mv 6 t0,Ln 7 t6,Ca 8 23 [t7],Mv 5 t8,Ex 9 0 t5,Ex 10 1 t5,As 3 t9,As 4 t10]
abbrev C12_2 := Ro [Mv 11 t4,Bn 12 .neq t11 (kI 0),Mv 13 t12,Mvf 14 13 t3,Mvf 15 13 t0,Caf 16 13 24 [t14,(kU 2147483648),t15],Bnf 17 13 .neq t16 (kI 0),Pk 18 t13 kT t17]
abbrev C12_3 := Ro [As 2 kP]
abbrev C12_4 := Sq [2] C12_3 .ret
abbrev C12_5 := Cd t18 C12_4 .skip
abbrev C12_6 := Sq [3,18] C12_2 C12_5
abbrev C12_7 := Ro [Mv 19 t3,As 2 t19]
abbrev C12_8 := Sq [2] C12_7 .ret
abbrev C12_9 := Sq [3] C12_6 C12_8
abbrev C12_10 := Sq [0,3,4] C12_1 C12_9
abbrev C12_11 := Sq [0] C12_0 C12_10
abbrev C12 := C12_11
abbrev C12r : List RV := [.t 2]
theorem C12ok : Okf Tryd.prog 12 Tryd.f12 C12 C12r := ⟨Tryd.func12, by kernel_rfl, by kernel_rfl, by kernel_rfl⟩

abbrev C13_0 := Ro [⟨(some 6),none,.e (.box t2)⟩,As 8 kS]
abbrev C13_1 := Ro [Mv 9 t0,Mv 10 t1,Mv 11 t3,⟨(some 12),none,.r (.mkf 27 [] [t6])⟩,Ca 13 26 [t9,t10,t11,t12],As 8 t13]
abbrev C13_2 := Sq [8] C13_1 .ret
abbrev C13_3 := Sq [0,1,3,6] C13_0 C13_2
abbrev C13 := C13_3
abbrev C13r : List RV := [.t 8]
theorem C13ok : Okf Tryd.prog 13 Tryd.f13 C13 C13r := ⟨Tryd.func13, by kernel_rfl, by kernel_rfl, by kernel_rfl⟩

abbrev C14_0 := Ro [As 4 kS]
abbrev C14_1 := Ro [As 5 kS]
abbrev C14_2 := Ro [Mv 9 t1,Ln 10 t9,Mv 11 (kI 0)]
abbrev C14_3 := Ro [Bn 12 .lss t11 t10]
abbrev C14_4 := Cd t12 .skip (.exit 0)
abbrev C14_5 := Ro [Ix 13 8 t9 t11,Ld 14 (some 8) t13,Al 7 [z4,zi,zi,zi,zi,z4,zi,z4],Sxn 8 t7 t14]
abbrev C14_6 := Ro [Mv 15 t0,Fa 16 0 t7,Ld 17 none t16,Ca 18 17 [t15,t17],As 8 t18]
abbrev C14_7 := Ro [Mv 19 t8,Bn 20 .geq t19 (kI 0)]
abbrev C14_8 := Ro [Mv 21 t5,Mv 22 t8,⟨(some 23),none,.e (.bsr 1 [.int .i64 0] [(0,1,t22)])⟩,Ap 24 1 8 t21 t23,As 5 t24]
abbrev C14_9 := Cd t20 C14_8 .skip
abbrev C14_10 := Sq [0,5,8,9,10,11,20] C14_7 C14_9
abbrev C14_11 := Sq [0,5,8,9,10,11] C14_6 C14_10
abbrev C14_12 : ACode := .fz 7 C14_11
abbrev C14_13 := Sq [0,5,7,9,10,11] C14_5 C14_12
abbrev C14_14 := Bk 1 C14_13
abbrev C14_15 := Ro [Bn 25 .add t11 (kI 1),Mv 11 t25]
abbrev C14_16 := Sq [0,5,9,10,11] C14_14 C14_15
abbrev C14_17 := Sq [0,5,9,10,11] C14_4 C14_16
abbrev C14_18 := Sq [0,5,9,10,11,12] C14_3 C14_17
abbrev C14_19 : ACode := .loop C14_18
abbrev C14_20 := Bk 0 C14_19
abbrev C14_21 := Sq [0,5,9,10,11] C14_2 C14_20
abbrev C14_22 := Ro [Mv 26 t5,Ca 27 29 [t26]]
abbrev C14_23 := Ro [Mv 28 t5,Ca 29 30 [t28],As 4 t29]
abbrev C14_24 := Sq [4] C14_23 .ret
abbrev C14_25 := Sq [5] C14_22 C14_24
abbrev C14_26 := Sq [5] C14_21 C14_25
abbrev C14_27 := Sq [0,1,5] C14_1 C14_26
abbrev C14_28 := Sq [0,1] C14_0 C14_27
abbrev C14 := C14_28
abbrev C14r : List RV := [.t 4]
theorem C14ok : Okf Tryd.prog 14 Tryd.f14 C14 C14r := ⟨Tryd.func14, by kernel_rfl, by kernel_rfl, by kernel_rfl⟩

abbrev C15_0 := Ro [Br 1 t0,As 2 kF]
abbrev C15_1 := Ro [Ld 4 (some 6) t1,Ca 5 31 [t4],Un 6 .not t5,As 3 t6]
abbrev C15_2 := Ro [As 2 kF]
abbrev C15_3 := Sq [2] C15_2 .ret
abbrev C15_4 := Ro [Fa 8 0 t1,Ld 9 none t8,Bn 10 .eql t9 (kI 3),As 7 t10]
abbrev C15_5 := Ro [Fa 11 4 t1,Ld 12 none t11,Bn 13 .rem t12 (kU 4),Bn 14 .eql t13 (kU 0),As 2 t14]
abbrev C15_6 := Sq [2] C15_5 .ret
abbrev C15_7 := Ro [Fa 16 0 t1,Ld 17 none t16,Bn 18 .eql t17 (kI 4),As 15 t18]
abbrev C15_8 := Ro [Fa 19 0 t1,Ld 20 none t19,Ca 21 28 [t20],As 15 t21]
abbrev C15_9 := Cd t15 .skip C15_8
abbrev C15_10 := Sq [1,15] C15_7 C15_9
abbrev C15_11 := Ro [As 2 kT]
abbrev C15_12 := Sq [2] C15_11 .ret
abbrev C15_13 := Cd t15 C15_12 .skip
abbrev C15_14 := Sq [1,15] C15_10 C15_13
abbrev C15_15 := Cd t7 C15_6 C15_14
abbrev C15_16 := Sq [1,7] C15_4 C15_15
abbrev C15_17 := Cd t3 C15_3 C15_16
abbrev C15_18 := Sq [1,3] C15_1 C15_17
abbrev C15_19 := Bk 0 C15_18
abbrev C15_20 := Ro [Fa 22 0 t1,Ld 23 none t22,Ca 24 32 [t23],Un 25 .not t24,As 2 t25]
abbrev C15_21 := Sq [2] C15_20 .ret
abbrev C15_22 := Sq [1] C15_19 C15_21
abbrev C15_23 := Sq [1] C15_0 C15_22
abbrev C15 := C15_23
abbrev C15r : List RV := [.t 2]
theorem C15ok : Okf Tryd.prog 15 Tryd.f15 C15 C15r := ⟨Tryd.func15, by kernel_rfl, by kernel_rfl, by kernel_rfl⟩

abbrev C16_0 := Ro [Br 2 t0,As 4 kF]
abbrev C16_1 := Ro [Mv 6 t1,Fa 7 0 t2,Ld 8 none t7,Bn 9 .add t8 (kU 4),Bn 10 .eql t6 t9,As 5 t10]
abbrev C16_2 := Ro [Mv 12 t1,Bn 13 .rem t12 (kU 4),Bn 14 .neq t13 (kU 0),As 11 t14]
abbrev C16_3 := Ro [As 4 kF]
abbrev C16_4 := Sq [4] C16_3 .ret
abbrev C16_5 := Ro [Fa 16 1 t2,Fa 17 0 t16,Ld 18 none t17,Bn 19 .eql t18 (kI 4),As 15 t19]
abbrev C16_6 := Ro [As 4 kT]
abbrev C16_7 := Sq [4] C16_6 .ret
abbrev C16_8 := Ro [Fa 21 1 t2,Fa 22 0 t21,Ld 23 none t22,Bn 24 .eql t23 (kI 3),As 20 t24]
abbrev C16_9 := Ro [Mv 25 t1,Fa 26 0 t2,Ld 27 none t26,Fa 28 1 t2,Fa 29 4 t28,Ld 30 none t29,Bn 31 .add t27 t30,Bn 32 .eql t25 t31,As 4 t32]
abbrev C16_10 := Sq [4] C16_9 .ret
abbrev C16_11 := Ro [Fa 34 1 t2,Fa 35 0 t34,Ld 36 none t35,Ca 37 28 [t36],As 33 t37]
abbrev C16_12 := Ro [Mv 38 t5,Mv 39 t38,Mvf 40 39 t1,Faf 41 39 0 t2,Ldf 42 39 none t41,Faf 43 39 1 t2,Faf 44 39 4 t43,Ldf 45 39 none t44,Bnf 46 39 .add t42 t45,Bnf 47 39 .eql t40 t46,Pk 48 t39 kT t47,As 4 t48]
abbrev C16_13 := Sq [4] C16_12 .ret
abbrev C16_14 := Cd t33 C16_13 .skip
abbrev C16_15 := Sq [1,2,5,33] C16_11 C16_14
abbrev C16_16 := Cd t20 C16_10 C16_15
abbrev C16_17 := Sq [1,2,5,20] C16_8 C16_16
abbrev C16_18 := Cd t15 C16_7 C16_17
abbrev C16_19 := Sq [1,2,5,15] C16_5 C16_18
abbrev C16_20 := Cd t11 C16_4 C16_19
abbrev C16_21 := Sq [1,2,5,11] C16_2 C16_20
abbrev C16_22 := Bk 0 C16_21
abbrev C16_23 := Ro [Mv 49 t5,As 4 t49]
abbrev C16_24 := Sq [4] C16_23 .ret
abbrev C16_25 := Sq [5] C16_22 C16_24
abbrev C16_26 := Sq [1,2,5] C16_1 C16_25
abbrev C16_27 := Sq [1,2] C16_0 C16_26
abbrev C16 := C16_27
abbrev C16r : List RV := [.t 4]
theorem C16ok : Okf Tryd.prog 16 Tryd.f16 C16 C16r := ⟨Tryd.func16, by kernel_rfl, by kernel_rfl, by kernel_rfl⟩

abbrev C17_0 := Ro [As 4 (kI 0)]
abbrev C17_1 := Ro [Mv 5 t0,Mv 6 t1,Ca 7 33 [t5,t6,(kI 1)],Un 8 .not t7]
abbrev C17_2 := Ro [As 4 (kI (-1))]
abbrev C17_3 := Sq [4] C17_2 .ret
abbrev C17_4 := Cd t8 C17_3 .skip
abbrev C17_5 := Sq [1,8] C17_1 C17_4
abbrev C17_6 := Ro [Mv 9 t1,Bn 10 .sub t9 (kU 2147483648),Cv 11 .i64 t10,Bn 12 .quo t11 (kI 64),As 4 t12]
abbrev C17_7 := Sq [4] C17_6 .ret
abbrev C17_8 := Sq [1] C17_5 C17_7
abbrev C17_9 := Sq [0,1] C17_0 C17_8
abbrev C17 := C17_9
abbrev C17r : List RV := [.t 4]
theorem C17ok : Okf Tryd.prog 17 Tryd.f17 C17 C17r := ⟨Tryd.func17, by kernel_rfl, by kernel_rfl, by kernel_rfl⟩

abbrev C23_0 := Ro [As 2 kP,As 3 (kI 0)]
abbrev C23_1 := Ro [Mv 5 t0,Bn 6 .lss t5 (kI 64),Mv 7 t6,Mvf 8 7 t0,Bnf 9 7 .gtr t8 (kI 65536),Pk 10 t7 kT t9,Mv 11 t10,Mvf 12 11 t0,Bnf 13 11 .rem t12 (kI 64),Bnf 14 11 .neq t13 (kI 0),Pk 15 t11 kT t14]
abbrev C23_2 := Ro [As 2 kP,As 3 (kI 4)]
abbrev C23_3 := Sq [2,3] C23_2 .ret
abbrev C23_4 := Cd t15 C23_3 .skip
abbrev C23_5 := Sq [0,15] C23_1 C23_4
abbrev C23_6 := Ro [Mv 16 t0,Bn 17 .quo t16 (kI 64),As 4 t17]
abbrev C23_7 : ACode := .dregt [Mv 18 t0,⟨(some 19),none,.e (.mks 1 [.int .u8 0] t18 t18)⟩,Mv 20 t4,⟨(some 21),none,.e (.mks 1 [.bool false] t20 t20)⟩,Mv 22 t4,⟨(some 23),none,.e (.mks 8 [.int .u64 0] t22 t22)⟩,⟨(some 24),none,.r (.bld [.nils,.nils,.nils] [(0,1,t19),(1,1,t21),(2,1,t23)])⟩,⟨(some 25),none,.e (.box t24)⟩,As 2 t25,As 3 (kI 0)] [[],[0,0],[],[2,2],[],[4,4],[1,3,5],[6],[7,0,1,2,3,4,5,6,7],[8,0,1,2,3,4,5,6,7,8]] (.r 0 (.r 2 (.r 4 (.e 1 [2,4] (.e 3 [0,4] (.e 5 [0,2] (.r 6 (.e 7 [] (.e 8 [] (.e 9 [] .nil .nil) .nil) .nil)) .nil) (.e 5 [0,2] (.e 3 [0,4] (.r 6 (.e 7 [] (.e 8 [] (.e 9 [] .nil .nil) .nil) .nil)) .nil) .nil)) (.e 3 [0,4] (.e 1 [2,4] (.e 5 [0,2] (.r 6 (.e 7 [] (.e 8 [] (.e 9 [] .nil .nil) .nil) .nil)) .nil) (.e 5 [0,2] (.e 1 [2,4] (.r 6 (.e 7 [] (.e 8 [] (.e 9 [] .nil .nil) .nil) .nil)) .nil) .nil)) (.e 5 [0,2] (.e 1 [2,4] (.e 3 [0,4] (.r 6 (.e 7 [] (.e 8 [] (.e 9 [] .nil .nil) .nil) .nil)) .nil) (.e 3 [0,4] (.e 1 [2,4] (.r 6 (.e 7 [] (.e 8 [] (.e 9 [] .nil .nil) .nil) .nil)) .nil) .nil)) .nil))))))
abbrev C23_8 := Sq [2,3] C23_7 .ret
abbrev C23_9 := Sq [0,4] C23_6 C23_8
abbrev C23_10 := Sq [0] C23_5 C23_9
abbrev C23_11 := Sq [0] C23_0 C23_10
abbrev C23 := C23_11
abbrev C23r : List RV := [.t 2,.t 3]
theorem C23ok : Okf Tryd.prog 23 Tryd.f23 C23 C23r := ⟨Tryd.func23, by kernel_rfl, by kernel_rfl, by kernel_rfl⟩

abbrev C24_0 := Ro [As 6 (kI 0)]
abbrev C24_1 := Ro [Mv 8 t0,Ep 9 false t8 kP,As 7 t9]
abbrev C24_2 := Ro [As 6 (kI 2)]
abbrev C24_3 := Sq [6] C24_2 .ret
abbrev C24_4 := Ro [Mv 11 t2,Ln 12 t11,Bn 13 .eql t12 (kI 0),As 10 t13]
abbrev C24_5 := Ro [As 6 (kI 0)]
abbrev C24_6 := Sq [6] C24_5 .ret
abbrev C24_7 := Ro [Mv 15 t0,Mv 16 t1,Mv 17 t2,Ln 18 t17,Ca 19 33 [t15,t16,t18],Un 20 .not t19,As 14 t20]
abbrev C24_8 := Ro [As 6 (kI 6)]
abbrev C24_9 := Sq [6] C24_8 .ret
abbrev C24_10 := Cd t14 C24_9 .skip
abbrev C24_11 := Sq [0,1,2,14] C24_7 C24_10
abbrev C24_12 := Cd t10 C24_6 C24_11
abbrev C24_13 := Sq [0,1,2,10] C24_4 C24_12
abbrev C24_14 := Cd t7 C24_3 C24_13
abbrev C24_15 := Sq [0,1,2,7] C24_1 C24_14
abbrev C24_16 := Bk 0 C24_15
abbrev C24_17 := Ro [Mv 21 t0,Mv 22 t1,Mv 23 t2,Ln 24 t23,Ca 25 47 [t21,t22,t24],Mv 26 t2,⟨(some 27),none,.e (.cpy 1 t25 t26)⟩]
abbrev C24_18 := Ro [As 6 (kI 0)]
abbrev C24_19 := Sq [6] C24_18 .ret
abbrev C24_20 := Sq [] C24_17 C24_19
abbrev C24_21 := Sq [0,1,2] C24_16 C24_20
abbrev C24_22 := Sq [0,1,2] C24_0 C24_21
abbrev C24 := C24_22
abbrev C24r : List RV := [.t 6]
theorem C24ok : Okf Tryd.prog 24 Tryd.f24 C24 C24r := ⟨Tryd.func24, by kernel_rfl, by kernel_rfl, by kernel_rfl⟩

abbrev C25_0 := Ro [As 6 kS]
abbrev C25_1 := Ro [Mv 7 t0,Mv 8 t1,Mv 9 t2,Ca 10 26 [t7,t8,t9,(.func 48)],As 6 t10]
abbrev C25_2 := Sq [6] C25_1 .ret
abbrev C25_3 := Sq [0,1,2] C25_0 C25_2
abbrev C25 := C25_3
abbrev C25r : List RV := [.t 6]
theorem C25ok : Okf Tryd.prog 25 Tryd.f25 C25 C25r := ⟨Tryd.func25, by kernel_rfl, by kernel_rfl, by kernel_rfl⟩

abbrev C26_0 := Ro [As 8 kS]
abbrev C26_1 := Ro [As 9 kS]
abbrev C26_2 := Ro [Mv 13 t9,Ln 14 t13,Mv 15 t2,⟨(some 16),none,.r (.mm false t15 (kI 32))⟩,Bn 17 .lss t14 t16]
abbrev C26_3 := Cd t17 .skip (.exit 0)
abbrev C26_4 := Sq [0,1,2,3,9,17] C26_2 C26_3
abbrev C26_5 := Ro [Mv 19 t0,Mv 20 t1,Ca 21 49 [t19,t20],Mv 18 t21,Ex 22 0 t18,Ex 23 1 t18,Al 10 [z4,zi,zi,zi,zi,z4,zi,z4],Sxn 8 t10 t22,As 11 t23]
abbrev C26_6 := Ro [Mv 24 t11,Un 25 .not t24]
abbrev C26_7 := Cd t25 (.exit 0) .skip
abbrev C26_8 := Sq [0,2,3,9,10,25] C26_6 C26_7
abbrev C26_9 := Ro [Mv 26 t3,⟨(some 27),none,.e (.callv t26 [t10])⟩,As 12 t27]
abbrev C26_10 := Ro [Mv 28 t9,Ld 29 (some 8) t10,⟨(some 30),none,.e (.bsr 1 [z4,zi,zi,zi,zi,z4,zi,z4] [(0,8,t29)])⟩,Ap 31 8 64 t28 t30,As 9 t31]
abbrev C26_11 := Ro [Mv 32 t12,Un 33 .not t32]
abbrev C26_12 := Cd t33 (.exit 0) .skip
abbrev C26_13 := Sq [0,2,3,9,10,33] C26_11 C26_12
abbrev C26_14 := Ro [Fa 34 7 t10,Ld 35 none t34,As 1 t35]
abbrev C26_15 := Sq [0,2,3,9,10] C26_13 C26_14
abbrev C26_16 := Sq [0,2,3,9,10,12] C26_10 C26_15
abbrev C26_17 := Sq [0,2,3,9,10,12] C26_9 C26_16
abbrev C26_18 := Sq [0,2,3,9,10] C26_8 C26_17
abbrev C26_19 := Sq [0,2,3,9,10,11] C26_5 C26_18
abbrev C26_20 := Bk 1 C26_19
abbrev C26_21 := Sq [0,1,2,3,9] C26_4 C26_20
abbrev C26_22 : ACode := .loop C26_21
abbrev C26_23 := Bk 0 C26_22
abbrev C26_24 := Ro [Mv 36 t9,As 8 t36]
abbrev C26_25 := Sq [8] C26_24 .ret
abbrev C26_26 := Sq [9] C26_23 C26_25
abbrev C26_27 := Sq [0,1,2,3,9] C26_1 C26_26
abbrev C26_28 := Sq [0,1,2,3] C26_0 C26_27
abbrev C26 := C26_28
abbrev C26r : List RV := [.t 8]
theorem C26ok : Okf Tryd.prog 26 Tryd.f26 C26 C26r := ⟨Tryd.func26, by kernel_rfl, by kernel_rfl, by kernel_rfl⟩

abbrev C27_0 := Ro [As 3 kF]
abbrev C27_1 := Ro [Mv 5 t0,Nc 6 t5,Fa 7 1 t6,Fa 8 0 t7,Ld 9 none t8,Ca 10 28 [t9],Un 11 .not t10]
abbrev C27_2 := Ro [Mv 12 t0,Nc 13 t12,Fa 14 1 t13,Fa 15 0 t14,Ld 16 none t15,Bn 17 .neq t16 (kI 4),As 3 t17]
abbrev C27_3 := Sq [3] C27_2 .ret
abbrev C27_4 := Cd t11 C27_3 .skip
abbrev C27_5 := Sq [0,1,11] C27_1 C27_4
abbrev C27_6 := Ro [Ld 18 none t1,Ln 19 t18,Bn 20 .eql t19 (kI 0)]
abbrev C27_7 := Ro [As 3 kF]
abbrev C27_8 := Sq [3] C27_7 .ret
abbrev C27_9 := Cd t20 C27_8 .skip
abbrev C27_10 := Sq [0,1,20] C27_6 C27_9
abbrev C27_11 := Ro [Ld 21 none t1,Ix 22 1 t21 (kI 0),Ld 23 none t22,As 4 t23]
abbrev C27_12 := Ro [Ld 24 none t1,⟨(some 25),none,.r (.sls 1 t24 (some (kI 1)) none)⟩,Sxn 1 t1 t25]
abbrev C27_13 := Ro [Mv 26 t4,Mv 27 t26,Mvt 28 27 t0,Nct 29 27 t28,Fat 30 27 1 t29,Fat 31 27 4 t30,Ldt 32 27 none t31,Bnt 33 27 .rem t32 (kU 4),Bnt 34 27 .neq t33 (kU 0),Pk 35 t27 t34 kF]
abbrev C27_14 := Ro [As 3 kF]
abbrev C27_15 := Sq [3] C27_14 .ret
abbrev C27_16 := Cd t35 C27_15 .skip
abbrev C27_17 := Sq [0,4,35] C27_13 C27_16
abbrev C27_18 := Ro [Mv 36 t4]
abbrev C27_19 := Dr [Mv 37 t0,Mv 38 t0,Nc 39 t38,Fa 40 0 t39,Ld 41 none t40,Mv 42 t0,Nc 43 t42,Fa 44 1 t43,Fa 45 4 t44,Ld 46 none t45,Bn 47 .add t41 t46,Nc 48 t37,Fa 49 7 t48,Sxn 1 t49 t47] [[],[],[1],[2],[3],[],[5],[6],[7],[8],[4,9],[0,0,1,2,3,4,5,6,7,8,9,10],[11,0,1,2,3,4,5,6,7,8,9,10],[12,10,0,1,2,3,4,5,6,7,8,9,10]] [(0,[]),(1,[]),(2,[]),(3,[]),(4,[]),(5,[]),(6,[]),(7,[]),(8,[]),(9,[]),(10,[]),(11,[]),(12,[]),(13,[])]
abbrev C27_20 := Cd t36 C27_19 .skip
abbrev C27_21 := Sq [0,36] C27_18 C27_20
abbrev C27_22 := Ro [As 3 kT]
abbrev C27_23 := Sq [3] C27_22 .ret
abbrev C27_24 := Sq [] C27_21 C27_23
abbrev C27_25 := Sq [0,4] C27_17 C27_24
abbrev C27_26 := Sq [0,4] C27_12 C27_25
abbrev C27_27 := Sq [0,1,4] C27_11 C27_26
abbrev C27_28 := Sq [0,1] C27_10 C27_27
abbrev C27_29 := Sq [0,1] C27_5 C27_28
abbrev C27_30 := Sq [0,1] C27_0 C27_29
abbrev C27 := C27_30
abbrev C27r : List RV := [.t 3]
theorem C27ok : Okf Tryd.prog 27 Tryd.f27 C27 C27r := ⟨Tryd.func27, by kernel_rfl, by kernel_rfl, by kernel_rfl⟩

abbrev C28_0 := Ro [As 2 kF]
abbrev C28_1 := Ro [Mv 3 t0,Bn 4 .geq t3 (kI 5),Mv 5 t4,Mvt 6 5 t0,Bnt 7 5 .leq t6 (kI 10),Pk 8 t5 t7 kF,As 2 t8]
abbrev C28_2 := Sq [2] C28_1 .ret
abbrev C28_3 := Sq [0] C28_0 C28_2
abbrev C28 := C28_3
abbrev C28r : List RV := [.t 2]
theorem C28ok : Okf Tryd.prog 28 Tryd.f28 C28 C28r := ⟨Tryd.func28, by kernel_rfl, by kernel_rfl, by kernel_rfl⟩

abbrev C31_0 := Ro [Br 1 t0,As 2 kF]
abbrev C31_1 := Ro [Fa 6 0 t1,Ld 7 none t6,Ca 8 52 [t7],Mv 5 t8,Ex 9 0 t5,Ex 10 1 t5,As 3 t9,As 4 t10]
abbrev C31_2 := Dr [Mv 11 t4,Bn 12 .neq t11 (kI 0),Mv 13 t12,Ldf 14 13 (some 6) t1,Mvf 15 13 t3,Caf 16 13 53 [t14,t15],Ldf 17 13 (some 6) t1,⟨(some 18),(some (13,false)),.r (.eqa true [.i,.i,.i,.i,.i,.i] t16 t17)⟩,Pk 19 t13 kT t18,Mv 20 t19,Faf 21 20 1 t1,Ldf 22 20 none t21,Caf 23 20 54 [t22],Unf 24 20 .not t23,Pk 25 t20 kT t24,Mv 26 t25,Faf 27 26 2 t1,Ldf 28 26 none t27,Caf 29 26 54 [t28],Unf 30 26 .not t29,Pk 31 t26 kT t30,Mv 32 t31,Faf 33 32 3 t1,Ldf 34 32 none t33,Caf 35 32 54 [t34],Unf 36 32 .not t35,Pk 37 t32 kT t36] [[],[0],[1],[2],[2],[3,4,2,2],[2],[5,6,2],[2,7],[8,5],[9],[10,9],[11,9,9],[12,9],[9,13],[14,12],[15],[16,15],[17,15,15],[18,15],[15,19],[20,18],[21],[22,21],[23,21,21],[24,21],[21,25]] [(0,[]),(1,[]),(2,[]),(3,[]),(4,[]),(6,[]),(5,[6]),(7,[]),(8,[]),(9,[]),(10,[]),(11,[]),(12,[]),(13,[]),(14,[]),(15,[]),(16,[]),(17,[]),(18,[]),(19,[]),(20,[]),(21,[]),(22,[]),(23,[]),(24,[]),(25,[]),(26,[])]
abbrev C31_3 := Ro [As 2 kF]
abbrev C31_4 := Sq [2] C31_3 .ret
abbrev C31_5 := Cd t37 C31_4 .skip
abbrev C31_6 := Sq [1,3,37] C31_2 C31_5
abbrev C31_7 := Ro [Fa 38 4 t1,Ld 39 none t38,Mv 40 t3,Ca 41 55 [t39,t40],Mv 42 t41,Fat 43 42 5 t1,Ldt 44 42 none t43,Bnt 45 42 .geq t44 (kI 0),Pk 46 t42 t45 kF,Mv 47 t46,Fat 48 47 5 t1,Ldt 49 47 none t48,Bnt 50 47 .leq t49 (kI 4095),Pk 51 t47 t50 kF,As 2 t51]
abbrev C31_8 := Sq [2] C31_7 .ret
abbrev C31_9 := Sq [1,3] C31_6 C31_8
abbrev C31_10 := Sq [1,3,4] C31_1 C31_9
abbrev C31_11 := Sq [1] C31_0 C31_10
abbrev C31 := C31_11
abbrev C31r : List RV := [.t 2]
theorem C31ok : Okf Tryd.prog 31 Tryd.f31 C31 C31r := ⟨Tryd.func31, by kernel_rfl, by kernel_rfl, by kernel_rfl⟩

abbrev C32_0 := Ro [As 2 kF]
abbrev C32_1 := Ro [Mv 3 t0,Ca 4 56 [t3],Un 5 .not t4,Mv 6 t5,Mvf 7 6 t0,Bnf 8 6 .eql t7 (kI 0),Pk 9 t6 kT t8,Mv 10 t9,Mvf 11 10 t0,Bnf 12 10 .geq t11 (kI 3),Mvf 13 10 t12,Mvt 14 13 t0,Bnt 15 13 .leq t14 (kI 10),Pkf 16 10 t13 t15 kF,Pk 17 t10 kT t16,Mv 18 t17,Mvf 19 18 t0,Bnf 20 18 .geq t19 (kI 39),Mvf 21 18 t20,Mvt 22 21 t0,Bnt 23 21 .leq t22 (kI 49),Pkf 24 18 t21 t23 kF,Pk 25 t18 kT t24,As 2 t25]
abbrev C32_2 := Sq [2] C32_1 .ret
abbrev C32_3 := Sq [0] C32_0 C32_2
abbrev C32 := C32_3
abbrev C32r : List RV := [.t 2]
theorem C32ok : Okf Tryd.prog 32 Tryd.f32 C32 C32r := ⟨Tryd.func32, by kernel_rfl, by kernel_rfl, by kernel_rfl⟩

abbrev C33_0 := Ro [As 6 kF]
abbrev C33_1 := Ro [Mv 7 t0,Ep 8 false t7 kP,Mv 9 t8,Mvf 10 9 t2,Bnf 11 9 .lss t10 (kI 1),Pk 12 t9 kT t11,Mv 13 t12,Mvf 14 13 t2,Mvf 15 13 t0,Ncf 16 13 t15,Faf 17 13 0 t16,Ldf 18 13 none t17,Lnf 19 13 t18,Bnf 20 13 .gtr t14 t19,Pk 21 t13 kT t20,Mv 22 t21,Mvf 23 22 t1,Bnf 24 22 .lss t23 (kU 2147483648),Pk 25 t22 kT t24]
abbrev C33_2 := Ro [As 6 kF]
abbrev C33_3 := Sq [6] C33_2 .ret
abbrev C33_4 := Cd t25 C33_3 .skip
abbrev C33_5 := Sq [0,1,2,25] C33_1 C33_4
abbrev C33_6 := Ro [Mv 26 t1,Bn 27 .sub t26 (kU 2147483648),Cv 28 .i64 t27,Mv 29 t0,Nc 30 t29,Fa 31 0 t30,Ld 32 none t31,Ln 33 t32,Mv 34 t2,Bn 35 .sub t33 t34,Bn 36 .leq t28 t35,As 6 t36]
abbrev C33_7 := Sq [6] C33_6 .ret
abbrev C33_8 := Sq [0,1,2] C33_5 C33_7
abbrev C33_9 := Sq [0,1,2] C33_0 C33_8
abbrev C33 := C33_9
abbrev C33r : List RV := [.t 6]
theorem C33ok : Okf Tryd.prog 33 Tryd.f33 C33 C33r := ⟨Tryd.func33, by kernel_rfl, by kernel_rfl, by kernel_rfl⟩

abbrev C47_0 := Ro [As 6 kS]
abbrev C47_1 := Ro [Mv 8 t1,Bn 9 .sub t8 (kU 2147483648),Cv 10 .i64 t9,As 7 t10]
abbrev C47_2 := Ro [Mv 11 t0,Nc 12 t11,Fa 13 0 t12,Ld 14 none t13,Mv 15 t7,Mv 16 t7,Mv 17 t2,Bn 18 .add t16 t17,Mv 19 t7,Mv 20 t2,Bn 21 .add t19 t20,⟨(some 22),none,.r (.sls3 1 t14 (some t15) t18 t21)⟩,As 6 t22]
abbrev C47_3 := Sq [6] C47_2 .ret
abbrev C47_4 := Sq [0,2,7] C47_1 C47_3
abbrev C47_5 := Sq [0,1,2] C47_0 C47_4
abbrev C47 := C47_5
abbrev C47r : List RV := [.t 6]
theorem C47ok : Okf Tryd.prog 47 Tryd.f47 C47 C47r := ⟨Tryd.func47, by kernel_rfl, by kernel_rfl, by kernel_rfl⟩

abbrev C48_0 := Ro [As 2 kF]
abbrev C48_1 := Ro [Mv 3 t0,Nc 4 t3,Fa 5 1 t4,Fa 6 0 t5,Ld 7 none t6,Ca 8 32 [t7],Un 9 .not t8,As 2 t9]
abbrev C48_2 := Sq [2] C48_1 .ret
abbrev C48_3 := Sq [0] C48_0 C48_2
abbrev C48 := C48_3
abbrev C48r : List RV := [.t 2]
theorem C48ok : Okf Tryd.prog 48 Tryd.f48 C48 C48r := ⟨Tryd.func48, by kernel_rfl, by kernel_rfl, by kernel_rfl⟩

abbrev C49_0 := Ro [Al 4 [z4,zi,zi,zi,zi,z4,zi,z4],As 5 kF]
abbrev C49_1 := Ro [Mv 10 t0,Mv 11 t1,Ca 12 70 [t10,t11,(kI 4)],Mv 9 t12,Ex 13 0 t9,Ex 14 1 t9,As 6 t13,As 7 t14]
abbrev C49_2 := Ro [Mv 15 t1,Mv 16 t6,Ca 17 71 [t16],Mv 18 t1,Bn 19 .add t18 (kU 4),⟨(some 20),none,.r (.bld [z4,zi,zi,zi,zi,z4,zi,z4] [(0,1,t15),(1,6,t17),(7,1,t19)])⟩,Al 8 [z4,zi,zi,zi,zi,z4,zi,z4],Sxn 8 t8 t20]
abbrev C49_3 := Ro [Fa 21 1 t8,Fa 22 0 t21,Ld 23 none t22]
abbrev C49_4 := Ro [Bn 25 .eql t23 (kI 3),As 24 t25]
abbrev C49_5 := Ro [Mv 26 t1,Fa 27 1 t8,Fa 28 4 t27,Ld 29 none t28,Bn 30 .add t26 t29,Fa 31 7 t8,Sxn 1 t31 t30]
abbrev C49_6 := Ro [Bn 33 .eql t23 (kI 4),As 32 t33]
abbrev C49_7 := Ro [Fa 34 7 t8,Sxn 1 t34 (kU 0)]
abbrev C49_8 := Cd t32 C49_7 .skip
abbrev C49_9 := Sq [4,7,8,32] C49_6 C49_8
abbrev C49_10 := Cd t24 C49_5 C49_9
abbrev C49_11 := Sq [1,4,7,8,23,24] C49_4 C49_10
abbrev C49_12 := Bk 0 C49_11
abbrev C49_13 := Sq [1,4,7,8,23] C49_3 C49_12
abbrev C49_14 := Dr [Ld 35 (some 8) t8,Mv 36 t7,Bn 37 .eql t36 (kI 0),Mv 38 t37,Fat 39 38 1 t8,Ldt 40 38 (some 6) t39,Cat 41 38 15 [t40],Pk 42 t38 t41 kF,Sxn 8 t4 t35,As 5 t42] [[],[],[1],[2],[3],[4,3],[5,3,3],[3,6],[0,6,0],[7,8,0,1,2,3,4,5,6,7,8]] [(0,[]),(1,[]),(2,[]),(3,[]),(4,[]),(5,[]),(6,[0]),(7,[]),(8,[7]),(9,[])]
abbrev C49_15 := Sq [4,5] C49_14 .ret
abbrev C49_16 := Sq [4,7,8] C49_13 C49_15
abbrev C49_17 := Sq [1,4,7,8] C49_2 C49_16
abbrev C49_18 := Sq [1,4,6,7] C49_1 C49_17
abbrev C49_19 := Sq [0,1,4] C49_0 C49_18
abbrev C49 := C49_19
abbrev C49r : List RV := [.c 4 (some 8),.t 5]
theorem C49ok : Okf Tryd.prog 49 Tryd.f49 C49 C49r := ⟨Tryd.func49, by kernel_rfl, by kernel_rfl, by kernel_rfl⟩

abbrev C52_0 := Ro [As 2 (kI 0),As 3 (kI 0)]
abbrev C52_1 := Ro [Mv 4 t0,Ca 5 56 [t4],Un 6 .not t5]
abbrev C52_2 := Ro [As 2 (kI 0),As 3 (kI 9)]
abbrev C52_3 := Sq [2,3] C52_2 .ret
abbrev C52_4 := Cd t6 C52_3 .skip
abbrev C52_5 := Sq [0,6] C52_1 C52_4
abbrev C52_6 := Ro [Mv 7 t0,⟨(some 8),none,.r (.ixa 58 1 (.global 0) t7)⟩,Ld 9 none t8,As 2 t9,As 3 (kI 0)]
abbrev C52_7 := Sq [2,3] C52_6 .ret
abbrev C52_8 := Sq [0] C52_5 C52_7
abbrev C52_9 := Sq [0] C52_0 C52_8
abbrev C52 := C52_9
abbrev C52r : List RV := [.t 2,.t 3]
theorem C52ok : Okf Tryd.prog 52 Tryd.f52 C52 C52r := ⟨Tryd.func52, by kernel_rfl, by kernel_rfl, by kernel_rfl⟩

abbrev C53_0 := Ro [Br 2 t0,Al 4 [zi,zi,zi,zi,z4,zi]]
abbrev C53_1 := Ro [Fa 6 0 t2,Ld 7 none t6,⟨(some 8),none,.r (.bld [zi,zi,zi,zi,z4,zi] [(0,1,t7)])⟩,Al 5 [zi,zi,zi,zi,z4,zi],Sxn 6 t5 t8]
abbrev C53_2 := Ro [Mv 9 t1,Bn 10 .neq t9 (kI 0),Mv 11 t10,Mvt 12 11 t1,Bnt 13 11 .neq t12 (kI 4),Pk 14 t11 t13 kF,Mv 15 t14,Mvt 16 15 t1,Bnt 17 15 .neq t16 (kI 5),Pk 18 t15 t17 kF]
abbrev C53_3 := Ro [Fa 19 1 t2,Ld 20 none t19,Fa 21 1 t5,Sxn 1 t21 t20]
abbrev C53_4 := Cd t18 C53_3 .skip
abbrev C53_5 := Sq [1,2,4,5,18] C53_2 C53_4
abbrev C53_6 := Ro [Mv 22 t1,Bn 23 .geq t22 (kI 3),Mv 24 t23,Mvt 25 24 t1,Bnt 26 24 .neq t25 (kI 9),Pk 27 t24 t26 kF]
abbrev C53_7 := Ro [Fa 28 2 t2,Ld 29 none t28,Fa 30 2 t5,Sxn 1 t30 t29]
abbrev C53_8 := Cd t27 C53_7 .skip
abbrev C53_9 := Sq [1,2,4,5,27] C53_6 C53_8
abbrev C53_10 := Ro [Mv 31 t1,Bn 32 .geq t31 (kI 4),Mv 33 t32,Mvt 34 33 t1,Bnt 35 33 .leq t34 (kI 6),Pk 36 t33 t35 kF]
abbrev C53_11 := Ro [Fa 37 3 t2,Ld 38 none t37,Fa 39 3 t5,Sxn 1 t39 t38]
abbrev C53_12 := Cd t36 C53_11 .skip
abbrev C53_13 := Sq [1,2,4,5,36] C53_10 C53_12
abbrev C53_14 := Ro [Mv 40 t1,Bn 41 .neq t40 (kI 0),Mv 42 t41,Mvt 43 42 t1,Bnt 44 42 .neq t43 (kI 6),Pk 45 t42 t44 kF,Mv 46 t45,Mvt 47 46 t1,Bnt 48 46 .neq t47 (kI 8),Pk 49 t46 t48 kF]
abbrev C53_15 := Ro [Fa 50 4 t2,Ld 51 none t50,Fa 52 4 t5,Sxn 1 t52 t51]
abbrev C53_16 := Cd t49 C53_15 .skip
abbrev C53_17 := Sq [1,2,4,5,49] C53_14 C53_16
abbrev C53_18 := Ro [Mv 53 t1,Bn 54 .geq t53 (kI 8)]
abbrev C53_19 := Ro [Fa 55 5 t2,Ld 56 none t55,Fa 57 5 t5,Sxn 1 t57 t56]
abbrev C53_20 := Cd t54 C53_19 .skip
abbrev C53_21 := Sq [2,4,5,54] C53_18 C53_20
abbrev C53_22 := Ro [Ld 58 (some 6) t5,Sxn 6 t4 t58]
abbrev C53_23 := Sq [4] C53_22 .ret
abbrev C53_24 := Sq [4,5] C53_21 C53_23
abbrev C53_25 := Sq [1,2,4,5] C53_17 C53_24
abbrev C53_26 := Sq [1,2,4,5] C53_13 C53_25
abbrev C53_27 := Sq [1,2,4,5] C53_9 C53_26
abbrev C53_28 := Sq [1,2,4,5] C53_5 C53_27
abbrev C53_29 := Sq [1,2,4,5] C53_1 C53_28
abbrev C53_30 := Sq [1,2,4] C53_0 C53_29
abbrev C53 := C53_30
abbrev C53r : List RV := [.c 4 (some 6)]
theorem C53ok : Okf Tryd.prog 53 Tryd.f53 C53 C53r := ⟨Tryd.func53, by kernel_rfl, by kernel_rfl, by kernel_rfl⟩

abbrev C54_0 := Ro [As 2 kF]
abbrev C54_1 := Ro [Mv 3 t0,Bn 4 .geq t3 (kI 0),Mv 5 t4,Mvt 6 5 t0,Bnt 7 5 .leq t6 (kI 31),Pk 8 t5 t7 kF,As 2 t8]
abbrev C54_2 := Sq [2] C54_1 .ret
abbrev C54_3 := Sq [0] C54_0 C54_2
abbrev C54 := C54_3
abbrev C54r : List RV := [.t 2]
theorem C54ok : Okf Tryd.prog 54 Tryd.f54 C54 C54r := ⟨Tryd.func54, by kernel_rfl, by kernel_rfl, by kernel_rfl⟩

abbrev C55_0 := Ro [As 4 kF]
abbrev C55_1 := Ro [Mv 5 t1]
abbrev C55_2 := Ro [Bn 7 .eql t5 (kI 1),As 6 t7]
abbrev C55_3 := Ro [Mv 8 t0,Bn 9 .and t8 (kU 4095),Bn 10 .eql t9 (kU 0),As 4 t10]
abbrev C55_4 := Sq [4] C55_3 .ret
abbrev C55_5 := Ro [Bn 12 .eql t5 (kI 2),As 11 t12]
abbrev C55_6 := Ro [Mv 13 t0,Ca 14 83 [t13,(kI 21)],As 4 t14]
abbrev C55_7 := Sq [4] C55_6 .ret
abbrev C55_8 := Ro [Bn 16 .eql t5 (kI 4),As 15 t16]
abbrev C55_9 := Ro [Mv 17 t0,Ca 18 83 [t17,(kI 13)],As 4 t18]
abbrev C55_10 := Sq [4] C55_9 .ret
abbrev C55_11 := Ro [Bn 20 .eql t5 (kI 3),As 19 t20]
abbrev C55_12 := Ro [Bn 21 .eql t5 (kI 5),As 19 t21]
abbrev C55_13 := Cd t19 .skip C55_12
abbrev C55_14 := Sq [0,5,19] C55_11 C55_13
abbrev C55_15 := Ro [Mv 22 t0,Ca 23 84 [t22,(kI 12)],As 4 t23]
abbrev C55_16 := Sq [4] C55_15 .ret
abbrev C55_17 := Ro [Bn 25 .eql t5 (kI 7),As 24 t25]
abbrev C55_18 := Ro [Bn 26 .eql t5 (kI 9),As 24 t26]
abbrev C55_19 := Cd t24 .skip C55_18
abbrev C55_20 := Sq [0,5,24] C55_17 C55_19
abbrev C55_21 := Ro [Mv 27 t0,Bn 28 .leq t27 (kU 31),As 4 t28]
abbrev C55_22 := Sq [4] C55_21 .ret
abbrev C55_23 := Cd t24 C55_22 .skip
abbrev C55_24 := Sq [0,24] C55_20 C55_23
abbrev C55_25 := Cd t19 C55_16 C55_24
abbrev C55_26 := Sq [0,5,19] C55_14 C55_25
abbrev C55_27 := Cd t15 C55_10 C55_26
abbrev C55_28 := Sq [0,5,15] C55_8 C55_27
abbrev C55_29 := Cd t11 C55_7 C55_28
abbrev C55_30 := Sq [0,5,11] C55_5 C55_29
abbrev C55_31 := Cd t6 C55_4 C55_30
abbrev C55_32 := Sq [0,5,6] C55_2 C55_31
abbrev C55_33 := Bk 0 C55_32
abbrev C55_34 := Sq [0,5] C55_1 C55_33
abbrev C55_35 := Ro [As 4 kT]
abbrev C55_36 := Sq [4] C55_35 .ret
abbrev C55_37 := Sq [] C55_34 C55_36
abbrev C55_38 := Sq [0,1] C55_0 C55_37
abbrev C55 := C55_38
abbrev C55r : List RV := [.t 4]
theorem C55ok : Okf Tryd.prog 55 Tryd.f55 C55 C55r := ⟨Tryd.func55, by kernel_rfl, by kernel_rfl, by kernel_rfl⟩

abbrev C56_0 := Ro [As 2 kF]
abbrev C56_1 := Ro [Mv 3 t0,Bn 4 .geq t3 (kI 0),Mv 5 t4,Mvt 6 5 t0,Bnt 7 5 .lss t6 (kI 58),Pk 8 t5 t7 kF,As 2 t8]
abbrev C56_2 := Sq [2] C56_1 .ret
abbrev C56_3 := Sq [0] C56_0 C56_2
abbrev C56 := C56_3
abbrev C56r : List RV := [.t 2]
theorem C56ok : Okf Tryd.prog 56 Tryd.f56 C56 C56r := ⟨Tryd.func56, by kernel_rfl, by kernel_rfl, by kernel_rfl⟩

abbrev C70_0 := Ro [As 6 (kU 0),As 7 (kI 0)]
abbrev C70_1 := Ro [Mv 9 t0,Mv 10 t1,Mv 11 t2,Ca 12 90 [t9,t10,t11],As 8 t12]
abbrev C70_2 := Ro [Mv 13 t8,Bn 14 .neq t13 (kI 0)]
abbrev C70_3 := Ro [Mv 15 t8,As 6 (kU 0),As 7 t15]
abbrev C70_4 := Sq [6,7] C70_3 .ret
abbrev C70_5 := Cd t14 C70_4 .skip
abbrev C70_6 := Sq [0,1,2,8,14] C70_2 C70_5
abbrev C70_7 := Sq [0,1,2,8] C70_1 C70_6
abbrev C70_8 := Ro [Mv 16 t0,Mv 17 t1,Mv 18 t2,Ca 19 47 [t16,t17,t18],Ca 20 91 [t19],Ex 21 0 t20,Ex 22 1 t20,As 6 t21,As 7 t22]
abbrev C70_9 := Sq [6,7] C70_8 .ret
abbrev C70_10 := Sq [0,1,2] C70_7 C70_9
abbrev C70_11 := Sq [0,1,2] C70_0 C70_10
abbrev C70 := C70_11
abbrev C70r : List RV := [.t 6,.t 7]
theorem C70ok : Okf Tryd.prog 70 Tryd.f70 C70 C70r := ⟨Tryd.func70, by kernel_rfl, by kernel_rfl, by kernel_rfl⟩

abbrev C71_0 := Ro [Al 2 [zi,zi,zi,zi,z4,zi]]
abbrev C71_1 := Ro [Mv 4 t0,Ca 5 92 [t4],As 3 t5]
abbrev C71_2 := Ro [Mv 6 t3,Bn 7 .eql t6 (kI 0)]
abbrev C71_3 := Ro [⟨(some 8),none,.r (.bld [zi,zi,zi,zi,z4,zi] [])⟩,Sxn 6 t2 t8]
abbrev C71_4 := Sq [2] C71_3 .ret
abbrev C71_5 := Cd t7 C71_4 .skip
abbrev C71_6 := Sq [0,2,3,7] C71_2 C71_5
abbrev C71_7 := Ro [Mv 9 t0,Mv 10 t3,Ca 11 93 [t9,t10],Sxn 6 t2 t11]
abbrev C71_8 := Sq [2] C71_7 .ret
abbrev C71_9 := Sq [0,2,3] C71_6 C71_8
abbrev C71_10 := Sq [0,2,3] C71_1 C71_9
abbrev C71_11 := Sq [0,2] C71_0 C71_10
abbrev C71 := C71_11
abbrev C71r : List RV := [.c 2 (some 6)]
theorem C71ok : Okf Tryd.prog 71 Tryd.f71 C71 C71r := ⟨Tryd.func71, by kernel_rfl, by kernel_rfl, by kernel_rfl⟩

abbrev C83_0 := Ro [As 4 kF]
abbrev C83_1 := Ro [Mv 5 t0,Bn 6 .and t5 (kU 1),Bn 7 .eql t6 (kU 0),Mv 8 t7,Mvt 9 8 t0,Mvt 10 8 t1,Cat 11 8 84 [t9,t10],Pk 12 t8 t11 kF,As 4 t12]
abbrev C83_2 := Sq [4] C83_1 .ret
abbrev C83_3 := Sq [0,1] C83_0 C83_2
abbrev C83 := C83_3
abbrev C83r : List RV := [.t 4]
theorem C83ok : Okf Tryd.prog 83 Tryd.f83 C83 C83r := ⟨Tryd.func83, by kernel_rfl, by kernel_rfl, by kernel_rfl⟩

abbrev C84_0 := Ro [As 4 kF]
abbrev C84_1 := Ro [Mv 6 t1,Bn 7 .sub (kI 32) t6,Cv 8 .u64 t7,As 5 t8]
abbrev C84_2 := Ro [Mv 9 t0,Mv 10 t5,Bn 11 .shl t9 t10,Cv 12 .i32 t11,Mv 13 t5,Bn 14 .shr t12 t13,Cv 15 .u32 t14,Mv 16 t0,Bn 17 .eql t15 t16,As 4 t17]
abbrev C84_3 := Sq [4] C84_2 .ret
abbrev C84_4 := Sq [0,5] C84_1 C84_3
abbrev C84_5 := Sq [0,1] C84_0 C84_4
abbrev C84 := C84_5
abbrev C84r : List RV := [.t 4]
theorem C84ok : Okf Tryd.prog 84 Tryd.f84 C84 C84r := ⟨Tryd.func84, by kernel_rfl, by kernel_rfl, by kernel_rfl⟩

abbrev C90_0 := Ro [As 6 (kI 0)]
abbrev C90_1 := Ro [Mv 8 t0,Ep 9 false t8 kP,Mv 10 t9,Mvf 11 10 t2,Bnf 12 10 .neq t11 (kI 1),Mvf 13 10 t12,Mvt 14 13 t2,Bnt 15 13 .neq t14 (kI 2),Pkf 16 10 t13 t15 kF,Mvf 17 10 t16,Mvt 18 17 t2,Bnt 19 17 .neq t18 (kI 4),Pkf 20 10 t17 t19 kF,Pk 21 t10 kT t20,As 7 t21]
abbrev C90_2 := Ro [As 6 (kI 2)]
abbrev C90_3 := Sq [6] C90_2 .ret
abbrev C90_4 := Ro [Mv 23 t1,Mv 24 t2,Cv 25 .u32 t24,Bn 26 .rem t23 t25,Bn 27 .neq t26 (kU 0),As 22 t27]
abbrev C90_5 := Ro [As 6 (kI 5)]
abbrev C90_6 := Sq [6] C90_5 .ret
abbrev C90_7 := Ro [Mv 29 t0,Mv 30 t1,Mv 31 t2,Ca 32 33 [t29,t30,t31],Un 33 .not t32,As 28 t33]
abbrev C90_8 := Ro [As 6 (kI 6)]
abbrev C90_9 := Sq [6] C90_8 .ret
abbrev C90_10 := Cd t28 C90_9 .skip
abbrev C90_11 := Sq [28] C90_7 C90_10
abbrev C90_12 := Cd t22 C90_6 C90_11
abbrev C90_13 := Sq [0,1,2,22] C90_4 C90_12
abbrev C90_14 := Cd t7 C90_3 C90_13
abbrev C90_15 := Sq [0,1,2,7] C90_1 C90_14
abbrev C90_16 := Bk 0 C90_15
abbrev C90_17 := Ro [As 6 (kI 0)]
abbrev C90_18 := Sq [6] C90_17 .ret
abbrev C90_19 := Sq [] C90_16 C90_18
abbrev C90_20 := Sq [0,1,2] C90_0 C90_19
abbrev C90 := C90_20
abbrev C90r : List RV := [.t 6]
theorem C90ok : Okf Tryd.prog 90 Tryd.f90 C90 C90r := ⟨Tryd.func90, by kernel_rfl, by kernel_rfl, by kernel_rfl⟩

abbrev C91_0 := Ro [As 2 (kU 0),As 3 (kI 0)]
abbrev C91_1 := Ro [Mv 6 t0,Ln 7 t6,Ca 8 101 [t7],Un 9 .not t8]
abbrev C91_2 := Ro [As 2 (kU 0),As 3 (kI 4)]
abbrev C91_3 := Sq [2,3] C91_2 .ret
abbrev C91_4 := Cd t9 C91_3 .skip
abbrev C91_5 := Sq [0,9] C91_1 C91_4
abbrev C91_6 := Ro [As 4 (kU 0)]
abbrev C91_7 := Ro [Mv 10 t0,Ln 11 t10,Mv 12 (kI 0)]
abbrev C91_8 := Ro [Bn 13 .lss t12 t11]
abbrev C91_9 := Cd t13 .skip (.exit 0)
abbrev C91_10 := Ro [Mv 14 t12,As 5 t14]
abbrev C91_11 := Ro [Mv 15 t4,Mv 16 t0,Mv 17 t5,Ix 18 1 t16 t17,Ld 19 none t18,Cv 20 .u32 t19,Mv 21 t5,Bn 22 .mul (kI 8) t21,Cv 23 .u64 t22,Bn 24 .shl t20 t23,Bn 25 .or t15 t24,As 4 t25]
abbrev C91_12 := Sq [0,4,5,11,12] C91_10 C91_11
abbrev C91_13 := Bk 1 C91_12
abbrev C91_14 := Ro [Bn 26 .add t12 (kI 1),Mv 12 t26]
abbrev C91_15 := Sq [0,4,11,12] C91_13 C91_14
abbrev C91_16 := Sq [0,4,11,12] C91_9 C91_15
abbrev C91_17 := Sq [0,4,11,12,13] C91_8 C91_16
abbrev C91_18 : ACode := .loop C91_17
abbrev C91_19 := Bk 0 C91_18
abbrev C91_20 := Sq [0,4,11,12] C91_7 C91_19
abbrev C91_21 := Ro [Mv 27 t4,As 2 t27,As 3 (kI 0)]
abbrev C91_22 := Sq [2,3] C91_21 .ret
abbrev C91_23 := Sq [4] C91_20 C91_22
abbrev C91_24 := Sq [0,4] C91_6 C91_23
abbrev C91_25 := Sq [0] C91_5 C91_24
abbrev C91_26 := Sq [0] C91_0 C91_25
abbrev C91 := C91_26
abbrev C91r : List RV := [.t 2,.t 3]
theorem C91ok : Okf Tryd.prog 91 Tryd.f91 C91 C91r := ⟨Tryd.func91, by kernel_rfl, by kernel_rfl, by kernel_rfl⟩

abbrev C92_0 := Ro [As 2 (kI 0)]
abbrev C92_1 := Ro [Mv 4 t0,Ca 5 102 [t4,(kL 14),(kL 12)],As 3 t5]
abbrev C92_2 := Ro [Mv 6 t0,Bn 7 .and t6 (kU 127)]
abbrev C92_3 := Ro [Bn 9 .eql t7 (kU 55),As 8 t9]
abbrev C92_4 := Ro [As 2 (kI 1)]
abbrev C92_5 := Sq [2] C92_4 .ret
abbrev C92_6 := Ro [Bn 11 .eql t7 (kU 23),As 10 t11]
abbrev C92_7 := Ro [As 2 (kI 2)]
abbrev C92_8 := Sq [2] C92_7 .ret
abbrev C92_9 := Ro [Bn 13 .eql t7 (kU 111),As 12 t13]
abbrev C92_10 := Ro [As 2 (kI 3)]
abbrev C92_11 := Sq [2] C92_10 .ret
abbrev C92_12 := Ro [Bn 15 .eql t7 (kU 103),As 14 t15]
abbrev C92_13 := Ro [Mv 16 t3,Bn 17 .eql t16 (kU 0)]
abbrev C92_14 := Ro [As 2 (kI 4)]
abbrev C92_15 := Sq [2] C92_14 .ret
abbrev C92_16 := Cd t17 C92_15 .skip
abbrev C92_17 := Sq [17] C92_13 C92_16
abbrev C92_18 := Ro [Bn 19 .eql t7 (kU 99),As 18 t19]
abbrev C92_19 := Ro [Mv 20 t3,Ca 21 103 [t20],As 2 t21]
abbrev C92_20 := Sq [2] C92_19 .ret
abbrev C92_21 := Ro [Bn 23 .eql t7 (kU 3),As 22 t23]
abbrev C92_22 := Ro [Mv 24 t3,Ca 25 104 [t24],As 2 t25]
abbrev C92_23 := Sq [2] C92_22 .ret
abbrev C92_24 := Ro [Bn 27 .eql t7 (kU 35),As 26 t27]
abbrev C92_25 := Ro [Mv 28 t3,Bn 29 .lss t28 (kU 3)]
abbrev C92_26 := Ro [Mv 30 t3,Cv 31 .i64 t30,Bn 32 .add (kI 16) t31,As 2 t32]
abbrev C92_27 := Sq [2] C92_26 .ret
abbrev C92_28 := Cd t29 C92_27 .skip
abbrev C92_29 := Sq [3,29] C92_25 C92_28
abbrev C92_30 := Ro [Bn 34 .eql t7 (kU 19),As 33 t34]
abbrev C92_31 := Ro [Mv 35 t0,Ca 36 105 [t35],As 2 t36]
abbrev C92_32 := Sq [2] C92_31 .ret
abbrev C92_33 := Ro [Bn 38 .eql t7 (kU 51),As 37 t38]
abbrev C92_34 := Ro [Mv 39 t0,Ca 40 106 [t39],As 2 t40]
abbrev C92_35 := Sq [2] C92_34 .ret
abbrev C92_36 := Ro [Bn 42 .eql t7 (kU 15),As 41 t42]
abbrev C92_37 := Ro [Mv 43 t3,Bn 44 .lss t43 (kU 2)]
abbrev C92_38 := Ro [Mv 45 t3,Cv 46 .i64 t45,Bn 47 .add (kI 38) t46,As 2 t47]
abbrev C92_39 := Sq [2] C92_38 .ret
abbrev C92_40 := Cd t44 C92_39 .skip
abbrev C92_41 := Sq [3,44] C92_37 C92_40
abbrev C92_42 := Ro [Bn 49 .eql t7 (kU 115),As 48 t49]
abbrev C92_43 := Ro [Mv 50 t0,Ca 51 107 [t50],As 2 t51]
abbrev C92_44 := Sq [2] C92_43 .ret
abbrev C92_45 := Cd t48 C92_44 .skip
abbrev C92_46 := Sq [0,48] C92_42 C92_45
abbrev C92_47 := Cd t41 C92_41 C92_46
abbrev C92_48 := Sq [0,3,7,41] C92_36 C92_47
abbrev C92_49 := Cd t37 C92_35 C92_48
abbrev C92_50 := Sq [0,3,7,37] C92_33 C92_49
abbrev C92_51 := Cd t33 C92_32 C92_50
abbrev C92_52 := Sq [0,3,7,33] C92_30 C92_51
abbrev C92_53 := Cd t26 C92_29 C92_52
abbrev C92_54 := Sq [0,3,7,26] C92_24 C92_53
abbrev C92_55 := Cd t22 C92_23 C92_54
abbrev C92_56 := Sq [0,3,7,22] C92_21 C92_55
abbrev C92_57 := Cd t18 C92_20 C92_56
abbrev C92_58 := Sq [0,3,7,18] C92_18 C92_57
abbrev C92_59 := Cd t14 C92_17 C92_58
abbrev C92_60 := Sq [0,3,7,14] C92_12 C92_59
abbrev C92_61 := Cd t12 C92_11 C92_60
abbrev C92_62 := Sq [0,3,7,12] C92_9 C92_61
abbrev C92_63 := Cd t10 C92_8 C92_62
abbrev C92_64 := Sq [0,3,7,10] C92_6 C92_63
abbrev C92_65 := Cd t8 C92_5 C92_64
abbrev C92_66 := Sq [0,3,7,8] C92_3 C92_65
abbrev C92_67 := Bk 0 C92_66
abbrev C92_68 := Sq [0,3,7] C92_2 C92_67
abbrev C92_69 := Ro [As 2 (kI 0)]
abbrev C92_70 := Sq [2] C92_69 .ret
abbrev C92_71 := Sq [] C92_68 C92_70
abbrev C92_72 := Sq [0,3] C92_1 C92_71
abbrev C92_73 := Sq [0] C92_0 C92_72
abbrev C92 := C92_73
abbrev C92r : List RV := [.t 2]
theorem C92ok : Okf Tryd.prog 92 Tryd.f92 C92 C92r := ⟨Tryd.func92, by kernel_rfl, by kernel_rfl, by kernel_rfl⟩

abbrev C93_0 := Ro [Al 4 [zi,zi,zi,zi,z4,zi]]
abbrev C93_1 := Ro [Mv 9 t1,Ca 10 52 [t9],Mv 8 t10,Ex 11 0 t8,Ex 12 1 t8,As 5 t11,As 6 t12]
abbrev C93_2 := Ro [Mv 13 t1,Mv 14 t0,Mv 15 t5,Ca 16 108 [t14,t15],⟨(some 17),none,.r (.bld [zi,zi,zi,zi,z4,zi] [(0,1,t13),(4,1,t16)])⟩,Al 7 [zi,zi,zi,zi,z4,zi],Sxn 6 t7 t17]
abbrev C93_3 := Ro [Mv 18 t5]
abbrev C93_4 := Ro [Bn 20 .eql t18 (kI 8),As 19 t20]
abbrev C93_5 := Ro [Bn 21 .eql t18 (kI 9),As 19 t21]
abbrev C93_6 := Cd t19 .skip C93_5
abbrev C93_7 := Sq [0,4,5,7,18,19] C93_4 C93_6
abbrev C93_8 := Ro [Mv 22 t0,Bn 23 .shr t22 (kL 20),Cv 24 .i64 t23,Fa 25 5 t7,Sxn 1 t25 t24]
abbrev C93_9 := Ro [Bn 27 .eql t18 (kI 4),As 26 t27]
abbrev C93_10 := Ro [Bn 28 .eql t18 (kI 5),As 26 t28]
abbrev C93_11 := Ro [Bn 29 .eql t18 (kI 6),As 26 t29]
abbrev C93_12 := Cd t26 .skip C93_11
abbrev C93_13 := Sq [0,4,5,7,18,26] C93_10 C93_12
abbrev C93_14 := Cd t26 .skip C93_13
abbrev C93_15 := Sq [0,4,5,7,18,26] C93_9 C93_14
abbrev C93_16 := Ro [Mv 30 t0,Ca 31 102 [t30,(kL 24),(kL 20)],Cv 32 .i64 t31,Fa 33 3 t7,Sxn 1 t33 t32]
abbrev C93_17 := Cd t26 C93_16 .skip
abbrev C93_18 := Sq [0,4,5,7,26] C93_15 C93_17
abbrev C93_19 := Cd t19 C93_8 C93_18
abbrev C93_20 := Sq [0,4,5,7,18,19] C93_7 C93_19
abbrev C93_21 := Bk 0 C93_20
abbrev C93_22 := Sq [0,4,5,7,18] C93_3 C93_21
abbrev C93_23 := Ro [Mv 34 t5]
abbrev C93_24 := Ro [Bn 36 .eql t34 (kI 6),As 35 t36]
abbrev C93_25 := Ro [Bn 37 .eql t34 (kI 3),As 35 t37]
abbrev C93_26 := Ro [Bn 38 .eql t34 (kI 7),As 35 t38]
abbrev C93_27 := Ro [Bn 39 .eql t34 (kI 8),As 35 t39]
abbrev C93_28 := Cd t35 .skip C93_27
abbrev C93_29 := Sq [0,4,7,34,35] C93_26 C93_28
abbrev C93_30 := Cd t35 .skip C93_29
abbrev C93_31 := Sq [0,4,7,34,35] C93_25 C93_30
abbrev C93_32 := Cd t35 .skip C93_31
abbrev C93_33 := Sq [0,4,7,34,35] C93_24 C93_32
abbrev C93_34 := Cd t35 (.exit 2) .skip
abbrev C93_35 := Sq [0,4,7,34,35] C93_33 C93_34
abbrev C93_36 := Ro [Bn 41 .eql t34 (kI 1),As 40 t41]
abbrev C93_37 := Ro [Bn 42 .eql t34 (kI 2),As 40 t42]
abbrev C93_38 := Ro [Bn 43 .eql t34 (kI 9),As 40 t43]
abbrev C93_39 := Cd t40 .skip C93_38
abbrev C93_40 := Sq [0,4,7,34,40] C93_37 C93_39
abbrev C93_41 := Cd t40 .skip C93_40
abbrev C93_42 := Sq [0,4,7,34,40] C93_36 C93_41
abbrev C93_43 := Cd t40 (.exit 3) .skip
abbrev C93_44 := Sq [0,4,7,34,40] C93_42 C93_43
abbrev C93_45 := Ro [Bn 45 .eql t34 (kI 4),As 44 t45]
abbrev C93_46 := Ro [Bn 46 .eql t34 (kI 5),As 44 t46]
abbrev C93_47 := Cd t44 .skip C93_46
abbrev C93_48 := Sq [0,4,7,34,44] C93_45 C93_47
abbrev C93_49 := Cd t44 (.exit 4) .skip
abbrev C93_50 := Sq [0,4,7,44] C93_48 C93_49
abbrev C93_51 := Sq [0,4,7,34] C93_44 C93_50
abbrev C93_52 := Sq [0,4,7,34] C93_35 C93_51
abbrev C93_53 := Sq [4,7] C93_52 (.exit 1)
abbrev C93_54 := Bk 2 C93_53
abbrev C93_55 := Ro [Mv 47 t0,Ca 48 102 [t47,(kL 19),(kL 15)],Cv 49 .i64 t48,Fa 50 2 t7,Sxn 1 t50 t49]
abbrev C93_56 := Sq [0,4,7] C93_54 C93_55
abbrev C93_57 := Bk 3 C93_56
abbrev C93_58 := Ro [Mv 51 t0,Ca 52 102 [t51,(kL 11),(kL 7)],Cv 53 .i64 t52,Fa 54 1 t7,Sxn 1 t54 t53]
abbrev C93_59 := Sq [4,7] C93_58 (.exit 1)
abbrev C93_60 := Sq [0,4,7] C93_57 C93_59
abbrev C93_61 := Bk 4 C93_60
abbrev C93_62 := Ro [Mv 55 t0,Ca 56 102 [t55,(kL 19),(kL 15)],Cv 57 .i64 t56,Fa 58 2 t7,Sxn 1 t58 t57]
abbrev C93_63 := Sq [4,7] C93_62 (.exit 1)
abbrev C93_64 := Sq [0,4,7] C93_61 C93_63
abbrev C93_65 := Bk 1 C93_64
abbrev C93_66 := Sq [0,4,7,34] C93_23 C93_65
abbrev C93_67 := Ro [Ld 59 (some 6) t7,Sxn 6 t4 t59]
abbrev C93_68 := Sq [4] C93_67 .ret
abbrev C93_69 := Sq [4,7] C93_66 C93_68
abbrev C93_70 := Sq [0,4,5,7] C93_22 C93_69
abbrev C93_71 := Sq [0,4,5,7] C93_2 C93_70
abbrev C93_72 := Sq [0,1,4,5] C93_1 C93_71
abbrev C93_73 := Sq [0,1,4] C93_0 C93_72
abbrev C93 := C93_73
abbrev C93r : List RV := [.c 4 (some 6)]
theorem C93ok : Okf Tryd.prog 93 Tryd.f93 C93 C93r := ⟨Tryd.func93, by kernel_rfl, by kernel_rfl, by kernel_rfl⟩

abbrev C101_0 := Ro [As 2 kF]
abbrev C101_1 := Ro [Mv 3 t0,Bn 4 .eql t3 (kI 1),Mv 5 t4,Mvf 6 5 t0,Bnf 7 5 .eql t6 (kI 2),Pk 8 t5 kT t7,Mv 9 t8,Mvf 10 9 t0,Bnf 11 9 .eql t10 (kI 4),Pk 12 t9 kT t11,As 2 t12]
abbrev C101_2 := Sq [2] C101_1 .ret
abbrev C101_3 := Sq [0] C101_0 C101_2
abbrev C101 := C101_3
abbrev C101r : List RV := [.t 2]
theorem C101ok : Okf Tryd.prog 101 Tryd.f101 C101 C101r := ⟨Tryd.func101, by kernel_rfl, by kernel_rfl, by kernel_rfl⟩

abbrev C102_0 := Ro [As 6 (kU 0)]
abbrev C102_1 := Ro [Mv 7 t0,Mv 8 t1,Bn 9 .sub (kL 31) t8,Bn 10 .shl t7 t9,Mv 11 t1,Bn 12 .sub (kL 31) t11,Mv 13 t2,Bn 14 .add t12 t13,Bn 15 .shr t10 t14,As 6 t15]
abbrev C102_2 := Sq [6] C102_1 .ret
abbrev C102_3 := Sq [0,1,2] C102_0 C102_2
abbrev C102 := C102_3
abbrev C102r : List RV := [.t 6]
theorem C102ok : Okf Tryd.prog 102 Tryd.f102 C102 C102r := ⟨Tryd.func102, by kernel_rfl, by kernel_rfl, by kernel_rfl⟩

abbrev C103_0 := Ro [As 2 (kI 0)]
abbrev C103_1 := Ro [Mv 3 t0]
abbrev C103_2 := Ro [Bn 5 .eql t3 (kU 0),As 4 t5]
abbrev C103_3 := Ro [Bn 6 .eql t3 (kU 1),As 4 t6]
abbrev C103_4 := Cd t4 .skip C103_3
abbrev C103_5 := Sq [0,3,4] C103_2 C103_4
abbrev C103_6 := Ro [Mv 7 t0,Cv 8 .i64 t7,Bn 9 .add (kI 5) t8,As 2 t9]
abbrev C103_7 := Sq [2] C103_6 .ret
abbrev C103_8 := Ro [Bn 11 .eql t3 (kU 4),As 10 t11]
abbrev C103_9 := Ro [Bn 12 .eql t3 (kU 5),As 10 t12]
abbrev C103_10 := Ro [Bn 13 .eql t3 (kU 6),As 10 t13]
abbrev C103_11 := Ro [Bn 14 .eql t3 (kU 7),As 10 t14]
abbrev C103_12 := Cd t10 .skip C103_11
abbrev C103_13 := Sq [0,3,10] C103_10 C103_12
abbrev C103_14 := Cd t10 .skip C103_13
abbrev C103_15 := Sq [0,3,10] C103_9 C103_14
abbrev C103_16 := Cd t10 .skip C103_15
abbrev C103_17 := Sq [0,3,10] C103_8 C103_16
abbrev C103_18 := Ro [Mv 15 t0,Cv 16 .i64 t15,Bn 17 .add (kI 7) t16,Bn 18 .sub t17 (kI 4),As 2 t18]
abbrev C103_19 := Sq [2] C103_18 .ret
abbrev C103_20 := Cd t10 C103_19 .skip
abbrev C103_21 := Sq [0,10] C103_17 C103_20
abbrev C103_22 := Cd t4 C103_7 C103_21
abbrev C103_23 := Sq [0,3,4] C103_5 C103_22
abbrev C103_24 := Bk 0 C103_23
abbrev C103_25 := Sq [0,3] C103_1 C103_24
abbrev C103_26 := Ro [As 2 (kI 0)]
abbrev C103_27 := Sq [2] C103_26 .ret
abbrev C103_28 := Sq [] C103_25 C103_27
abbrev C103_29 := Sq [0] C103_0 C103_28
abbrev C103 := C103_29
abbrev C103r : List RV := [.t 2]
theorem C103ok : Okf Tryd.prog 103 Tryd.f103 C103 C103r := ⟨Tryd.func103, by kernel_rfl, by kernel_rfl, by kernel_rfl⟩

abbrev C104_0 := Ro [As 2 (kI 0)]
abbrev C104_1 := Ro [Mv 3 t0]
abbrev C104_2 := Ro [Bn 5 .eql t3 (kU 0),As 4 t5]
abbrev C104_3 := Ro [Bn 6 .eql t3 (kU 1),As 4 t6]
abbrev C104_4 := Ro [Bn 7 .eql t3 (kU 2),As 4 t7]
abbrev C104_5 := Cd t4 .skip C104_4
abbrev C104_6 := Sq [0,3,4] C104_3 C104_5
abbrev C104_7 := Cd t4 .skip C104_6
abbrev C104_8 := Sq [0,3,4] C104_2 C104_7
abbrev C104_9 := Ro [Mv 8 t0,Cv 9 .i64 t8,Bn 10 .add (kI 11) t9,As 2 t10]
abbrev C104_10 := Sq [2] C104_9 .ret
abbrev C104_11 := Ro [Bn 12 .eql t3 (kU 4),As 11 t12]
abbrev C104_12 := Ro [Bn 13 .eql t3 (kU 5),As 11 t13]
abbrev C104_13 := Cd t11 .skip C104_12
abbrev C104_14 := Sq [0,3,11] C104_11 C104_13
abbrev C104_15 := Ro [Mv 14 t0,Cv 15 .i64 t14,Bn 16 .add (kI 14) t15,Bn 17 .sub t16 (kI 4),As 2 t17]
abbrev C104_16 := Sq [2] C104_15 .ret
abbrev C104_17 := Cd t11 C104_16 .skip
abbrev C104_18 := Sq [0,11] C104_14 C104_17
abbrev C104_19 := Cd t4 C104_10 C104_18
abbrev C104_20 := Sq [0,3,4] C104_8 C104_19
abbrev C104_21 := Bk 0 C104_20
abbrev C104_22 := Sq [0,3] C104_1 C104_21
abbrev C104_23 := Ro [As 2 (kI 0)]
abbrev C104_24 := Sq [2] C104_23 .ret
abbrev C104_25 := Sq [] C104_22 C104_24
abbrev C104_26 := Sq [0] C104_0 C104_25
abbrev C104 := C104_26
abbrev C104r : List RV := [.t 2]
theorem C104ok : Okf Tryd.prog 104 Tryd.f104 C104 C104r := ⟨Tryd.func104, by kernel_rfl, by kernel_rfl, by kernel_rfl⟩

abbrev C105_0 := Ro [As 2 (kI 0)]
abbrev C105_1 := Ro [Mv 3 t0,Ca 4 102 [t3,(kL 14),(kL 12)]]
abbrev C105_2 := Ro [Bn 12 .eql t4 (kU 0),As 11 t12]
abbrev C105_3 := Ro [As 2 (kI 19)]
abbrev C105_4 := Sq [2] C105_3 .ret
abbrev C105_5 := Ro [Bn 14 .eql t4 (kU 2),As 13 t14]
abbrev C105_6 := Ro [As 2 (kI 20)]
abbrev C105_7 := Sq [2] C105_6 .ret
abbrev C105_8 := Ro [Bn 16 .eql t4 (kU 3),As 15 t16]
abbrev C105_9 := Ro [As 2 (kI 21)]
abbrev C105_10 := Sq [2] C105_9 .ret
abbrev C105_11 := Ro [Bn 18 .eql t4 (kU 4),As 17 t18]
abbrev C105_12 := Ro [As 2 (kI 22)]
abbrev C105_13 := Sq [2] C105_12 .ret
abbrev C105_14 := Ro [Bn 20 .eql t4 (kU 6),As 19 t20]
abbrev C105_15 := Ro [As 2 (kI 23)]
abbrev C105_16 := Sq [2] C105_15 .ret
abbrev C105_17 := Ro [Bn 22 .eql t4 (kU 7),As 21 t22]
abbrev C105_18 := Ro [As 2 (kI 24)]
abbrev C105_19 := Sq [2] C105_18 .ret
abbrev C105_20 := Ro [Bn 24 .eql t4 (kU 1),As 23 t24]
abbrev C105_21 := Ro [Mv 25 t0,Bn 26 .shr t25 (kL 25),Bn 27 .eql t26 (kU 0)]
abbrev C105_22 := Ro [As 2 (kI 25)]
abbrev C105_23 := Sq [2] C105_22 .ret
abbrev C105_24 := Cd t27 C105_23 .skip
abbrev C105_25 := Sq [27] C105_21 C105_24
abbrev C105_26 := Ro [Mv 5 t0,Bn 6 .shr t5 (kL 25)]
abbrev C105_27 := Ro [Bn 8 .eql t6 (kU 0),As 7 t8]
abbrev C105_28 := Ro [As 2 (kI 26)]
abbrev C105_29 := Sq [2] C105_28 .ret
abbrev C105_30 := Ro [Bn 10 .eql t6 (kU 32),As 9 t10]
abbrev C105_31 := Ro [As 2 (kI 27)]
abbrev C105_32 := Sq [2] C105_31 .ret
abbrev C105_33 := Cd t9 C105_32 .skip
abbrev C105_34 := Sq [9] C105_30 C105_33
abbrev C105_35 := Cd t7 C105_29 C105_34
abbrev C105_36 := Sq [6,7] C105_27 C105_35
abbrev C105_37 := Bk 1 C105_36
abbrev C105_38 := Sq [6] C105_26 C105_37
abbrev C105_39 := Cd t23 C105_25 C105_38
abbrev C105_40 := Sq [0,23] C105_20 C105_39
abbrev C105_41 := Cd t21 C105_19 C105_40
abbrev C105_42 := Sq [0,4,21] C105_17 C105_41
abbrev C105_43 := Cd t19 C105_16 C105_42
abbrev C105_44 := Sq [0,4,19] C105_14 C105_43
abbrev C105_45 := Cd t17 C105_13 C105_44
abbrev C105_46 := Sq [0,4,17] C105_11 C105_45
abbrev C105_47 := Cd t15 C105_10 C105_46
abbrev C105_48 := Sq [0,4,15] C105_8 C105_47
abbrev C105_49 := Cd t13 C105_7 C105_48
abbrev C105_50 := Sq [0,4,13] C105_5 C105_49
abbrev C105_51 := Cd t11 C105_4 C105_50
abbrev C105_52 := Sq [0,4,11] C105_2 C105_51
abbrev C105_53 := Bk 0 C105_52
abbrev C105_54 := Sq [0,4] C105_1 C105_53
abbrev C105_55 := Ro [As 2 (kI 0)]
abbrev C105_56 := Sq [2] C105_55 .ret
abbrev C105_57 := Sq [] C105_54 C105_56
abbrev C105_58 := Sq [0] C105_0 C105_57
abbrev C105 := C105_58
abbrev C105r : List RV := [.t 2]
theorem C105ok : Okf Tryd.prog 105 Tryd.f105 C105 C105r := ⟨Tryd.func105, by kernel_rfl, by kernel_rfl, by kernel_rfl⟩

abbrev C106_0 := Ro [As 2 (kI 0)]
abbrev C106_1 := Ro [Mv 4 t0,Ca 5 102 [t4,(kL 14),(kL 12)],As 3 t5]
abbrev C106_2 := Ro [Mv 6 t0,Bn 7 .shr t6 (kL 25)]
abbrev C106_3 := Ro [Bn 9 .eql t7 (kU 0),As 8 t9]
abbrev C106_4 := Ro [⟨(some 10),none,.r (.bld [zi,zi,zi,zi,zi,zi,zi,zi] [(0,1,(kI 28)),(1,1,(kI 30)),(2,1,(kI 31)),(3,1,(kI 32)),(4,1,(kI 33)),(5,1,(kI 34)),(6,1,(kI 36)),(7,1,(kI 37))])⟩,Mv 11 t3,⟨(some 12),none,.r (.ixv 8 1 none t10 t11)⟩,As 2 t12]
abbrev C106_5 := Sq [2] C106_4 .ret
abbrev C106_6 := Ro [Bn 14 .eql t7 (kU 1),As 13 t14]
abbrev C106_7 := Ro [Mv 15 t3,Cv 16 .i64 t15,Bn 17 .add (kI 50) t16,As 2 t17]
abbrev C106_8 := Sq [2] C106_7 .ret
abbrev C106_9 := Ro [Bn 19 .eql t7 (kU 32),As 18 t19]
abbrev C106_10 := Ro [Mv 20 t3,Bn 21 .eql t20 (kU 0)]
abbrev C106_11 := Ro [As 2 (kI 29)]
abbrev C106_12 := Sq [2] C106_11 .ret
abbrev C106_13 := Cd t21 C106_12 .skip
abbrev C106_14 := Sq [3,21] C106_10 C106_13
abbrev C106_15 := Ro [Mv 22 t3,Bn 23 .eql t22 (kU 5)]
abbrev C106_16 := Ro [As 2 (kI 35)]
abbrev C106_17 := Sq [2] C106_16 .ret
abbrev C106_18 := Cd t23 C106_17 .skip
abbrev C106_19 := Sq [23] C106_15 C106_18
abbrev C106_20 := Sq [3] C106_14 C106_19
abbrev C106_21 := Cd t18 C106_20 .skip
abbrev C106_22 := Sq [3,18] C106_9 C106_21
abbrev C106_23 := Cd t13 C106_8 C106_22
abbrev C106_24 := Sq [3,7,13] C106_6 C106_23
abbrev C106_25 := Cd t8 C106_5 C106_24
abbrev C106_26 := Sq [3,7,8] C106_3 C106_25
abbrev C106_27 := Bk 0 C106_26
abbrev C106_28 := Sq [3,7] C106_2 C106_27
abbrev C106_29 := Ro [As 2 (kI 0)]
abbrev C106_30 := Sq [2] C106_29 .ret
abbrev C106_31 := Sq [] C106_28 C106_30
abbrev C106_32 := Sq [0,3] C106_1 C106_31
abbrev C106_33 := Sq [0] C106_0 C106_32
abbrev C106 := C106_33
abbrev C106r : List RV := [.t 2]
theorem C106ok : Okf Tryd.prog 106 Tryd.f106 C106 C106r := ⟨Tryd.func106, by kernel_rfl, by kernel_rfl, by kernel_rfl⟩

abbrev C107_0 := Ro [As 2 (kI 0)]
abbrev C107_1 := Ro [Mv 4 t0,Ca 5 102 [t4,(kL 14),(kL 12)],As 3 t5]
abbrev C107_2 := Ro [Mv 6 t3]
abbrev C107_3 := Ro [Bn 8 .eql t6 (kU 1),As 7 t8]
abbrev C107_4 := Ro [Bn 9 .eql t6 (kU 2),As 7 t9]
abbrev C107_5 := Ro [Bn 10 .eql t6 (kU 3),As 7 t10]
abbrev C107_6 := Cd t7 .skip C107_5
abbrev C107_7 := Sq [0,3,6,7] C107_4 C107_6
abbrev C107_8 := Cd t7 .skip C107_7
abbrev C107_9 := Sq [0,3,6,7] C107_3 C107_8
abbrev C107_10 := Ro [Mv 11 t3,Cv 12 .i64 t11,Bn 13 .add (kI 42) t12,Bn 14 .sub t13 (kI 1),As 2 t14]
abbrev C107_11 := Sq [2] C107_10 .ret
abbrev C107_12 := Ro [Bn 16 .eql t6 (kU 5),As 15 t16]
abbrev C107_13 := Ro [Bn 17 .eql t6 (kU 6),As 15 t17]
abbrev C107_14 := Ro [Bn 18 .eql t6 (kU 7),As 15 t18]
abbrev C107_15 := Cd t15 .skip C107_14
abbrev C107_16 := Sq [0,3,6,15] C107_13 C107_15
abbrev C107_17 := Cd t15 .skip C107_16
abbrev C107_18 := Sq [0,3,6,15] C107_12 C107_17
abbrev C107_19 := Ro [Mv 19 t3,Cv 20 .i64 t19,Bn 21 .add (kI 45) t20,Bn 22 .sub t21 (kI 5),As 2 t22]
abbrev C107_20 := Sq [2] C107_19 .ret
abbrev C107_21 := Cd t15 C107_20 .skip
abbrev C107_22 := Sq [0,3,15] C107_18 C107_21
abbrev C107_23 := Cd t7 C107_11 C107_22
abbrev C107_24 := Sq [0,3,6,7] C107_9 C107_23
abbrev C107_25 := Bk 0 C107_24
abbrev C107_26 := Sq [0,3,6] C107_2 C107_25
abbrev C107_27 := Sq [0,3] C107_1 C107_26
abbrev C107_28 := Ro [Mv 23 t0]
abbrev C107_29 := Ro [Bn 25 .eql t23 (kU 115),As 24 t25]
abbrev C107_30 := Ro [As 2 (kI 40)]
abbrev C107_31 := Sq [2] C107_30 .ret
abbrev C107_32 := Ro [Bn 27 .eql t23 (kU 1048691),As 26 t27]
abbrev C107_33 := Ro [As 2 (kI 41)]
abbrev C107_34 := Sq [2] C107_33 .ret
abbrev C107_35 := Ro [Bn 29 .eql t23 (kU 807403635),As 28 t29]
abbrev C107_36 := Ro [As 2 (kI 48)]
abbrev C107_37 := Sq [2] C107_36 .ret
abbrev C107_38 := Ro [Bn 31 .eql t23 (kU 273678451),As 30 t31]
abbrev C107_39 := Ro [As 2 (kI 49)]
abbrev C107_40 := Sq [2] C107_39 .ret
abbrev C107_41 := Cd t30 C107_40 .skip
abbrev C107_42 := Sq [30] C107_38 C107_41
abbrev C107_43 := Cd t28 C107_37 C107_42
abbrev C107_44 := Sq [23,28] C107_35 C107_43
abbrev C107_45 := Cd t26 C107_34 C107_44
abbrev C107_46 := Sq [23,26] C107_32 C107_45
abbrev C107_47 := Cd t24 C107_31 C107_46
abbrev C107_48 := Sq [23,24] C107_29 C107_47
abbrev C107_49 := Bk 1 C107_48
abbrev C107_50 := Sq [23] C107_28 C107_49
abbrev C107_51 := Ro [As 2 (kI 0)]
abbrev C107_52 := Sq [2] C107_51 .ret
abbrev C107_53 := Sq [] C107_50 C107_52
abbrev C107_54 := Sq [0] C107_27 C107_53
abbrev C107_55 := Sq [0] C107_0 C107_54
abbrev C107 := C107_55
abbrev C107r : List RV := [.t 2]
theorem C107ok : Okf Tryd.prog 107 Tryd.f107 C107 C107r := ⟨Tryd.func107, by kernel_rfl, by kernel_rfl, by kernel_rfl⟩

abbrev C108_0 := Ro [As 4 (kU 0)]
abbrev C108_1 := Ro [Mv 5 t1]
abbrev C108_2 := Ro [Bn 7 .eql t5 (kI 1),As 6 t7]
abbrev C108_3 := Ro [Mv 8 t0,Bn 9 .andNot t8 (kU 4095),As 4 t9]
abbrev C108_4 := Sq [4] C108_3 .ret
abbrev C108_5 := Ro [Bn 11 .eql t5 (kI 2),As 10 t11]
abbrev C108_6 := Ro [Mv 12 t0,Ca 13 110 [t12,(kL 20)],Mv 14 t0,Ca 15 102 [t14,(kL 19),(kL 12)],Bn 16 .shl t15 (kL 12),Bn 17 .or t13 t16,Mv 18 t0,Ca 19 102 [t18,(kL 20),(kL 20)],Bn 20 .shl t19 (kL 11),Bn 21 .or t17 t20,Mv 22 t0,Ca 23 102 [t22,(kL 30),(kL 21)],Bn 24 .shl t23 (kL 1),Bn 25 .or t21 t24,As 4 t25]
abbrev C108_7 := Sq [4] C108_6 .ret
abbrev C108_8 := Ro [Bn 27 .eql t5 (kI 3),As 26 t27]
abbrev C108_9 := Ro [Mv 28 t0,Cv 29 .i32 t28,Bn 30 .shr t29 (kL 20),Cv 31 .u32 t30,As 4 t31]
abbrev C108_10 := Sq [4] C108_9 .ret
abbrev C108_11 := Ro [Bn 33 .eql t5 (kI 4),As 32 t33]
abbrev C108_12 := Ro [Mv 34 t0,Ca 35 110 [t34,(kL 12)],Mv 36 t0,Ca 37 102 [t36,(kL 7),(kL 7)],Bn 38 .shl t37 (kL 11),Bn 39 .or t35 t38,Mv 40 t0,Ca 41 102 [t40,(kL 30),(kL 25)],Bn 42 .shl t41 (kL 5),Bn 43 .or t39 t42,Mv 44 t0,Ca 45 102 [t44,(kL 11),(kL 8)],Bn 46 .shl t45 (kL 1),Bn 47 .or t43 t46,As 4 t47]
abbrev C108_13 := Sq [4] C108_12 .ret
abbrev C108_14 := Ro [Bn 49 .eql t5 (kI 5),As 48 t49]
abbrev C108_15 := Ro [Mv 50 t0,Ca 51 110 [t50,(kL 11)],Mv 52 t0,Ca 53 102 [t52,(kL 30),(kL 25)],Bn 54 .shl t53 (kL 5),Bn 55 .or t51 t54,Mv 56 t0,Ca 57 102 [t56,(kL 11),(kL 7)],Bn 58 .or t55 t57,As 4 t58]
abbrev C108_16 := Sq [4] C108_15 .ret
abbrev C108_17 := Ro [Bn 60 .eql t5 (kI 7),As 59 t60]
abbrev C108_18 := Ro [Mv 61 t0,Ca 62 102 [t61,(kL 24),(kL 20)],As 4 t62]
abbrev C108_19 := Sq [4] C108_18 .ret
abbrev C108_20 := Ro [Bn 64 .eql t5 (kI 9),As 63 t64]
abbrev C108_21 := Ro [Mv 65 t0,Ca 66 102 [t65,(kL 19),(kL 15)],As 4 t66]
abbrev C108_22 := Sq [4] C108_21 .ret
abbrev C108_23 := Cd t63 C108_22 .skip
abbrev C108_24 := Sq [0,63] C108_20 C108_23
abbrev C108_25 := Cd t59 C108_19 C108_24
abbrev C108_26 := Sq [0,5,59] C108_17 C108_25
abbrev C108_27 := Cd t48 C108_16 C108_26
abbrev C108_28 := Sq [0,5,48] C108_14 C108_27
abbrev C108_29 := Cd t32 C108_13 C108_28
abbrev C108_30 := Sq [0,5,32] C108_11 C108_29
abbrev C108_31 := Cd t26 C108_10 C108_30
abbrev C108_32 := Sq [0,5,26] C108_8 C108_31
abbrev C108_33 := Cd t10 C108_7 C108_32
abbrev C108_34 := Sq [0,5,10] C108_5 C108_33
abbrev C108_35 := Cd t6 C108_4 C108_34
abbrev C108_36 := Sq [0,5,6] C108_2 C108_35
abbrev C108_37 := Bk 0 C108_36
abbrev C108_38 := Sq [0,5] C108_1 C108_37
abbrev C108_39 := Ro [As 4 (kU 0)]
abbrev C108_40 := Sq [4] C108_39 .ret
abbrev C108_41 := Sq [] C108_38 C108_40
abbrev C108_42 := Sq [0,1] C108_0 C108_41
abbrev C108 := C108_42
abbrev C108r : List RV := [.t 4]
theorem C108ok : Okf Tryd.prog 108 Tryd.f108 C108 C108r := ⟨Tryd.func108, by kernel_rfl, by kernel_rfl, by kernel_rfl⟩

abbrev C110_0 := Ro [As 4 (kU 0)]
abbrev C110_1 := Ro [Mv 5 t0,Cv 6 .i32 t5,Bn 7 .shr t6 (kL 31),Mv 8 t1,Bn 9 .shl t7 t8,Cv 10 .u32 t9,As 4 t10]
abbrev C110_2 := Sq [4] C110_1 .ret
abbrev C110_3 := Sq [0,1] C110_0 C110_2
abbrev C110 := C110_3
abbrev C110r : List RV := [.t 4]
theorem C110ok : Okf Tryd.prog 110 Tryd.f110 C110 C110r := ⟨Tryd.func110, by kernel_rfl, by kernel_rfl, by kernel_rfl⟩
end Go.Ab
end
section
namespace Go.Ab
open Go.Proofs
variable {G : Glo} {h : Heap}
theorem width_spec (n : Int) : Spec Tryd.prog G 101 [.int .i64 n] h (Is (.bool (n == 1 || n == 2 || n == 4)) h) := by
 refine Spec.is C101ok rfl ?_
 simp only [push_cast, simprocAttr]
theorem leN_take (bs : List (BitVec 8)) (k : Nat) (hk : k < bs.length) : leN (bs.take (k + 1)) = leN (bs.take k) + 256 ^ k * (bs.getD k 0#8).toNat := by
 rw [List.take_add_one, List.getElem?_eq_getElem hk, leN_app]
 simp [leN, Nat.min_eq_left (Nat.le_of_lt hk), hk]
theorem pow256 (k : Nat) : 256 ^ k = 2 ^ (8 * k) := by rw [Nat.pow_mul]
theorem Number_spec (bs : List (BitVec 8)) (hn : bs.length = 1 ∨ bs.length = 2 ∨ bs.length = 4) : Spec Tryd.prog G 91 [byt bs] h (Is (.tup [.int .u32 (BitVec.ofNat 32 (leN bs)).toNat, .int .i64 0]) h) := by
 refine Spec.is C91ok rfl ?_
 simp only [push_cast, simprocAttr, byt]
 refine (width_spec bs.length).to ?_
 have hb : ((bs.length : Int) == 1 || (bs.length : Int) == 2 || (bs.length : Int) == 4) = true := by rcases hn with h | h | h <;> rw [h] <;> rfl
 simp only [push_cast, simprocAttr, hb]
 refine lpc.rel [0, 4, 11, 12] (fun m ρ h' => ∃ k, m = bs.length - k ∧ k ≤ bs.length ∧ h' = h ∧ ρ = [(0, byt bs), (4, .int .u32 (BitVec.ofNat 32 (leN (bs.take k))).toNat), (11, .int .i64 bs.length), (12, .int .i64 k)]) ⟨bs.length, 0, rfl, by omega, rfl, rfl⟩ ?_
 rintro m _ _ ⟨k, rfl, hk, rfl, rfl⟩
 simp only [push_cast, simprocAttr, byt]
 refine ⟨fun hk2 => ?_, fun hk2 => ?_⟩
 ·have e8 : (8 * (k : Int)).toNat = 8 * k := by omega
  simp (disch := omega) only [push_cast, simprocAttr, wrap_i64, toNat_ofInt64, Nat.min_eq_left, Int.toNat_of_nonneg, e8, hk2]
  have e : BitVec.ofNat 32 (leN (bs.take k)) ||| BitVec.setWidth 32 (bs.getD k 0#8) <<< (8 * k) = BitVec.ofNat 32 (leN (bs.take (k + 1))) := by
   have h1 : BitVec.setWidth 32 (bs.getD k 0#8) = BitVec.ofNat 32 (bs.getD k 0#8).toNat := by rw [BitVec.ofNat_toNat]
   have h2 := leN_lt (bs.take k)
   rw [List.length_take, Nat.min_eq_left hk, pow256] at h2
   rw [h1, or_shl _ _ _ h2, leN_take bs k hk2, pow256]
  rw [e]
  exact ⟨_, _, by omega, .refl _, k + 1, rfl, by omega, rfl, rfl⟩
 ·obtain rfl : k = bs.length := by omega
  simp
end Go.Ab
end
section
namespace Go.Ab
open Go.Proofs
variable {G : Glo} {h : Heap}
@[push_cast] theorem i32_wrap (x : BitVec 32) : IntKind.i32.wrap (x.toNat : Int) = x.toInt := by
 have := x.isLt
 rw [BitVec.toInt_eq_toNat_cond]
 simp only [IntKind.wrap, IntKind.signed, IntKind.bits]
 simp
 split <;> omega
@[push_cast] theorem bits_i32 : IntKind.i32.bits = 32 := rfl
theorem pow_int (k : Nat) : ((2 : Int) ^ k) = ((2 ^ k : Nat) : Int) := by push_cast; rfl
def extN (n k : Nat) : Nat := if 2 ^ (k - 1) ≤ n % 2 ^ k then n % 2 ^ k + 2 ^ 32 - 2 ^ k else n % 2 ^ k
theorem extN_lt (n k : Nat) (hk : k ≤ 32) : extN n k < 2 ^ 32 := by
 have h1 : n % 2 ^ k < 2 ^ k := Nat.mod_lt _ (Nat.two_pow_pos k)
 have h2 : 2 ^ k ≤ 2 ^ 32 := Nat.pow_le_pow_right (by omega) hk
 unfold extN; split <;> omega
end Go.Ab
end
section
namespace Go.Ab
open Go.Proofs
variable {G : Glo} {h : Heap}
theorem field_spec (w : BitVec 32) (hi lo : Nat) (h1 : lo ≤ hi) (h2 : hi ≤ 31) : Spec Tryd.prog G 102 [.int .u32 w.toNat, .int .u64 hi, .int .u64 lo] h (Is (.int .u32 (BitVec.ofNat 32 (fld w lo (hi - lo + 1))).toNat) h) := by
 have e := shl_shr_fld w hi lo h1 h2
 have hl := fld_lt w lo (hi - lo + 1)
 have hp : 2 ^ (hi - lo + 1) ≤ 2 ^ 32 := Nat.pow_le_pow_right (by omega) (by omega)
 have e2 : BitVec.ofNat 32 (fld w lo (hi - lo + 1)) = (w <<< (31 - hi)) >>> (31 - hi + lo) := by
  apply BitVec.eq_of_toNat_eq
  rw [e, BitVec.toNat_ofNat, Nat.mod_eq_of_lt (by omega)]
 rw [e2]
 obtain ⟨a, ha⟩ : ∃ a, 31 - hi = a := ⟨_, rfl⟩
 have c1 : (31 : Int) - hi = (a : Int) := by omega
 have c2 : min a 32 = a := by omega
 have c3 : min (a + lo) 32 = a + lo := by omega
 rw [ha]
 refine Spec.is C102ok rfl ?_
 have c4 : ((a : Int) + lo).toNat = a + lo := by omega
 simp (disch := omega) only [push_cast, simprocAttr, wrap_i64, toNat_ofInt64, Nat.min_eq_left, Int.toNat_of_nonneg, c1, c2, c3, c4]
 omega
theorem lt8 (x : BitVec 32) (hx : x.toNat < 8) : x = 0#32 ∨ x = 1#32 ∨ x = 2#32 ∨ x = 3#32 ∨ x = 4#32 ∨ x = 5#32 ∨ x = 6#32 ∨ x = 7#32 := by
 have h : x.toNat = 0 ∨ x.toNat = 1 ∨ x.toNat = 2 ∨ x.toNat = 3 ∨ x.toNat = 4 ∨ x.toNat = 5 ∨ x.toNat = 6 ∨ x.toNat = 7 := by omega
 have e : ∀ n : Nat, n < 8 → x.toNat = n → x = BitVec.ofNat 32 n := fun n hn q => BitVec.eq_of_toNat_eq (by rw [q, BitVec.toNat_ofNat, Nat.mod_eq_of_lt (by omega)])
 rcases h with h | h | h | h | h | h | h | h
 ·exact .inl (e 0 (by omega) h)
 ·exact .inr (.inl (e 1 (by omega) h))
 ·exact .inr (.inr (.inl (e 2 (by omega) h)))
 ·exact .inr (.inr (.inr (.inl (e 3 (by omega) h))))
 ·exact .inr (.inr (.inr (.inr (.inl (e 4 (by omega) h)))))
 ·exact .inr (.inr (.inr (.inr (.inr (.inl (e 5 (by omega) h))))))
 ·exact .inr (.inr (.inr (.inr (.inr (.inr (.inl (e 6 (by omega) h)))))))
 ·exact .inr (.inr (.inr (.inr (.inr (.inr (.inr (e 7 (by omega) h)))))))
theorem kbranch_spec (x : BitVec 32) (hx : x.toNat < 8) : Spec Tryd.prog G 103 [.int .u32 x.toNat] h (Is (.int .i64 (branchK x.toNat : Nat)) h) := by
 rcases lt8 x hx with rfl | rfl | rfl | rfl | rfl | rfl | rfl | rfl <;>
 ·refine Spec.is C103ok rfl ?_
  simp (disch := omega) only [push_cast, simprocAttr, wrap_i64, toNat_ofInt64, Nat.min_eq_left, Int.toNat_of_nonneg]
  simp [branchK]
theorem kload_spec (x : BitVec 32) (hx : x.toNat < 8) : Spec Tryd.prog G 104 [.int .u32 x.toNat] h (Is (.int .i64 (loadK x.toNat : Nat)) h) := by
 rcases lt8 x hx with rfl | rfl | rfl | rfl | rfl | rfl | rfl | rfl <;>
 ·refine Spec.is C104ok rfl ?_
  simp (disch := omega) only [push_cast, simprocAttr, wrap_i64, toNat_ofInt64, Nat.min_eq_left, Int.toNat_of_nonneg]
  simp [loadK]
theorem f3_eq (w : BitVec 32) : ∃ x : BitVec 32, BitVec.ofNat 32 (fld w 12 3) = x ∧ x.toNat = fld w 12 3 ∧ x.toNat < 8 := by
 have := fld_lt w 12 3
 refine ⟨_, rfl, ?_, ?_⟩ <;> rw [BitVec.toNat_ofNat, Nat.mod_eq_of_lt (by omega)]
 omega
theorem f7_fdiv (w : BitVec 32) : (w.toNat : Int).fdiv 33554432 = (fld w 25 7 : Nat) := by
 have := w.isLt
 rw [Int.fdiv_eq_ediv_of_nonneg _ (by omega)]
 unfold fld
 omega
theorem kimm_spec (w : BitVec 32) : Spec Tryd.prog G 105 [.int .u32 w.toNat] h (Is (.int .i64 (immK (fld w 12 3) (fld w 25 7) : Nat)) h) := by
 obtain ⟨x, e1, e2, hx⟩ := f3_eq w
 have hf := field_spec (G := G) (h := h) w 14 12 (by omega) (by omega)
 rw [show 14 - 12 + 1 = 3 from rfl, e1] at hf
 have h7 := f7_fdiv w
 rw [← e2]
 generalize fld w 25 7 = y at h7 ⊢
 refine Spec.is C105ok rfl ?_
 simp only [push_cast, simprocAttr]
 refine hf.to ?_
 rcases lt8 x hx with rfl | rfl | rfl | rfl | rfl | rfl | rfl | rfl <;>
 ·simp (disch := omega) only [push_cast, simprocAttr, wrap_i64, toNat_ofInt64, Nat.min_eq_left, Int.toNat_of_nonneg, h7]
  simp [immK]
  try grind
theorem kreg_spec (w : BitVec 32) : Spec Tryd.prog G 106 [.int .u32 w.toNat] h (Is (.int .i64 (regK (fld w 12 3) (fld w 25 7) : Nat)) h) := by
 obtain ⟨x, e1, e2, hx⟩ := f3_eq w
 have hf := field_spec (G := G) (h := h) w 14 12 (by omega) (by omega)
 rw [show 14 - 12 + 1 = 3 from rfl, e1] at hf
 have h7 := f7_fdiv w
 rw [← e2]
 generalize fld w 25 7 = y at h7 ⊢
 refine Spec.is C106ok rfl ?_
 simp only [push_cast, simprocAttr]
 refine hf.to ?_
 rcases lt8 x hx with rfl | rfl | rfl | rfl | rfl | rfl | rfl | rfl <;>
 ·simp (disch := omega) only [push_cast, simprocAttr, wrap_i64, toNat_ofInt64, Nat.min_eq_left, Int.toNat_of_nonneg, h7]
  simp [regK]
  try grind
theorem ksys_spec (w : BitVec 32) : Spec Tryd.prog G 107 [.int .u32 w.toNat] h (Is (.int .i64 (sysK (fld w 12 3) w.toNat : Nat)) h) := by
 obtain ⟨x, e1, e2, hx⟩ := f3_eq w
 have hf := field_spec (G := G) (h := h) w 14 12 (by omega) (by omega)
 rw [show 14 - 12 + 1 = 3 from rfl, e1] at hf
 rw [← e2]
 refine Spec.is C107ok rfl ?_
 simp only [push_cast, simprocAttr]
 refine hf.to ?_
 rcases lt8 x hx with rfl | rfl | rfl | rfl | rfl | rfl | rfl | rfl <;>
 ·simp (disch := omega) only [push_cast, simprocAttr, wrap_i64, toNat_ofInt64, Nat.min_eq_left, Int.toNat_of_nonneg]
  simp [sysK]
  try grind
end Go.Ab
end
section
namespace Go.Ab
open Go.Proofs
variable {G : Glo} {h : Heap}
theorem kind_spec (w : BitVec 32) : Spec Tryd.prog G 92 [.int .u32 w.toNat] h (Is (.int .i64 (kindK w : Nat)) h) := by
 obtain ⟨x, e1, e2, hx⟩ := f3_eq w
 have hf := field_spec (G := G) (h := h) w 14 12 (by omega) (by omega)
 rw [show 14 - 12 + 1 = 3 from rfl, e1] at hf
 have hb := kbranch_spec (G := G) (h := h) x hx
 have hl := kload_spec (G := G) (h := h) x hx
 have hi := kimm_spec (G := G) (h := h) w
 have hr := kreg_spec (G := G) (h := h) w
 have hs := ksys_spec (G := G) (h := h) w
 have h7 := mask7 w
 have ho := fld_lt w 0 7
 have hK : kindK w = (if fld w 0 7 = 0x37 then 1 else if fld w 0 7 = 0x17 then 2 else if fld w 0 7 = 0x6f then 3 else if fld w 0 7 = 0x67 then (if x.toNat = 0 then 4 else 0) else if fld w 0 7 = 0x63 then branchK x.toNat else if fld w 0 7 = 0x03 then loadK x.toNat
  else if fld w 0 7 = 0x23 then (if x.toNat < 3 then 16 + x.toNat else 0) else if fld w 0 7 = 0x13 then immK x.toNat (fld w 25 7) else if fld w 0 7 = 0x33 then regK x.toNat (fld w 25 7) else if fld w 0 7 = 0x0f then (if x.toNat < 2 then 38 + x.toNat else 0) else if fld w 0 7 = 0x73 then sysK x.toNat w.toNat else 0) := by rw [kindK, e2]
 rw [← e2] at hi hr hs
 generalize kindK w = K at hK ⊢
 generalize immK x.toNat (fld w 25 7) = K1 at *
 generalize regK x.toNat (fld w 25 7) = K2 at *
 generalize sysK x.toNat w.toNat = K3 at *
 generalize branchK x.toNat = K4 at *
 generalize loadK x.toNat = K5 at *
 have h7' : ((w &&& 127#32).toNat : Int) = (fld w 0 7 : Nat) := by rw [h7]
 generalize fld w 0 7 = o at *
 refine Spec.is C92ok rfl ?_
 simp only [push_cast, simprocAttr]
 refine hf.to ?_
 simp (disch := omega) only [push_cast, simprocAttr, wrap_i64, toNat_ofInt64, Nat.min_eq_left, Int.toNat_of_nonneg, h7']
 clear hf h7 h7' e1 e2 hx
 by_cases c55 : o = 55
 ·rw [if_pos c55] at hK
  have p55 : ((o : Int) = 55) = True := by simp [c55]
  simp only [p55, true_implies, not_true_eq_false, not_false_eq_true, false_implies, and_true, true_and]
  rw [hK]; rfl
 rw [if_neg c55] at hK
 have n55 : ((o : Int) = 55) = False := by simp only [eq_iff_iff, iff_false]; omega
 by_cases c23 : o = 23
 ·rw [if_pos c23] at hK
  have p23 : ((o : Int) = 23) = True := by simp [c23]
  simp only [n55, p23, true_implies, not_true_eq_false, not_false_eq_true, false_implies, and_true, true_and]
  rw [hK]; rfl
 rw [if_neg c23] at hK
 have n23 : ((o : Int) = 23) = False := by simp only [eq_iff_iff, iff_false]; omega
 by_cases c111 : o = 111
 ·rw [if_pos c111] at hK
  have p111 : ((o : Int) = 111) = True := by simp [c111]
  simp only [n55, n23, p111, true_implies, not_true_eq_false, not_false_eq_true, false_implies, and_true, true_and]
  rw [hK]; rfl
 rw [if_neg c111] at hK
 have n111 : ((o : Int) = 111) = False := by simp only [eq_iff_iff, iff_false]; omega
 by_cases c103 : o = 103
 ·rw [if_pos c103] at hK
  have p103 : ((o : Int) = 103) = True := by simp [c103]
  simp only [n55, n23, n111, p103, true_implies, not_true_eq_false, not_false_eq_true, false_implies, and_true, true_and]
  refine ⟨fun q => ?_, fun q => ?_⟩ <;> (congr 1; split at hK <;> omega)
 rw [if_neg c103] at hK
 have n103 : ((o : Int) = 103) = False := by simp only [eq_iff_iff, iff_false]; omega
 by_cases c99 : o = 99
 ·rw [if_pos c99] at hK
  have p99 : ((o : Int) = 99) = True := by simp [c99]
  simp only [n55, n23, n111, n103, p99, true_implies, not_true_eq_false, not_false_eq_true, false_implies, and_true, true_and]
  refine hb.to ?_
  simp only [push_cast, simprocAttr]
  rw [hK]
 rw [if_neg c99] at hK
 have n99 : ((o : Int) = 99) = False := by simp only [eq_iff_iff, iff_false]; omega
 by_cases c3 : o = 3
 ·rw [if_pos c3] at hK
  have p3 : ((o : Int) = 3) = True := by simp [c3]
  simp only [n55, n23, n111, n103, n99, p3, true_implies, not_true_eq_false, not_false_eq_true, false_implies, and_true, true_and]
  refine hl.to ?_
  simp only [push_cast, simprocAttr]
  rw [hK]
 rw [if_neg c3] at hK
 have n3 : ((o : Int) = 3) = False := by simp only [eq_iff_iff, iff_false]; omega
 by_cases c35 : o = 35
 ·rw [if_pos c35] at hK
  have p35 : ((o : Int) = 35) = True := by simp [c35]
  simp only [n55, n23, n111, n103, n99, n3, p35, true_implies, not_true_eq_false, not_false_eq_true, false_implies, and_true, true_and]
  refine ⟨fun q => ?_, fun q => ?_⟩ <;> (congr 1; split at hK <;> omega)
 rw [if_neg c35] at hK
 have n35 : ((o : Int) = 35) = False := by simp only [eq_iff_iff, iff_false]; omega
 by_cases c19 : o = 19
 ·rw [if_pos c19] at hK
  have p19 : ((o : Int) = 19) = True := by simp [c19]
  simp only [n55, n23, n111, n103, n99, n3, n35, p19, true_implies, not_true_eq_false, not_false_eq_true, false_implies, and_true, true_and]
  refine hi.to ?_
  simp only [push_cast, simprocAttr]
  rw [hK]
 rw [if_neg c19] at hK
 have n19 : ((o : Int) = 19) = False := by simp only [eq_iff_iff, iff_false]; omega
 by_cases c51 : o = 51
 ·rw [if_pos c51] at hK
  have p51 : ((o : Int) = 51) = True := by simp [c51]
  simp only [n55, n23, n111, n103, n99, n3, n35, n19, p51, true_implies, not_true_eq_false, not_false_eq_true, false_implies, and_true, true_and]
  refine hr.to ?_
  simp only [push_cast, simprocAttr]
  rw [hK]
 rw [if_neg c51] at hK
 have n51 : ((o : Int) = 51) = False := by simp only [eq_iff_iff, iff_false]; omega
 by_cases c15 : o = 15
 ·rw [if_pos c15] at hK
  have p15 : ((o : Int) = 15) = True := by simp [c15]
  simp only [n55, n23, n111, n103, n99, n3, n35, n19, n51, p15, true_implies, not_true_eq_false, not_false_eq_true, false_implies, and_true, true_and]
  refine ⟨fun q => ?_, fun q => ?_⟩ <;> (congr 1; split at hK <;> omega)
 rw [if_neg c15] at hK
 have n15 : ((o : Int) = 15) = False := by simp only [eq_iff_iff, iff_false]; omega
 by_cases c115 : o = 115
 ·rw [if_pos c115] at hK
  have p115 : ((o : Int) = 115) = True := by simp [c115]
  simp only [n55, n23, n111, n103, n99, n3, n35, n19, n51, n15, p115, true_implies, not_true_eq_false, not_false_eq_true, false_implies, and_true, true_and]
  refine hs.to ?_
  simp only [push_cast, simprocAttr]
  rw [hK]
 rw [if_neg c115] at hK
 have n115 : ((o : Int) = 115) = False := by simp only [eq_iff_iff, iff_false]; omega
 simp only [n55, n23, n111, n103, n99, n3, n35, n19, n51, n15, n115, not_false_eq_true, true_implies, false_implies, true_and]
 rw [hK]; rfl
def formL : List Nat := [0, 1, 1, 2, 3, 4, 4, 4, 4, 4, 4, 3, 3, 3, 3, 3, 5, 5, 5, 3, 3, 3, 3, 3, 3, 7, 7, 7, 6, 6, 6, 6, 6, 6, 6, 6, 6, 6, 3, 3, 0, 0, 8, 8, 8, 9, 9, 9, 0, 0, 6, 6, 6, 6, 6, 6, 6, 6]
def formC : List AV := formL.map fun n : Nat => .int .i64 (n : Int)
def formN (op : Nat) : Nat := formL.getD op 0
theorem formC_get (op : Nat) (h : op < 58) : formC[op]? = some (.int .i64 (formN op : Nat)) := by
 have : formL.length = 58 := rfl
 simp only [formC, List.getElem?_map, formN, List.getD_eq_getElem?_getD]
 rw [List.getElem?_eq_getElem (by omega)]
 rfl
theorem formC_len : formC.length = 58 := rfl
def GF (G : Glo) : Prop := G 0 = .cp formC 0
theorem has2_spec (op : Int) : Spec Tryd.prog G 56 [.int .i64 op] h (Is (.bool (decide (0 ≤ op) && decide (op < 58))) h) := by
 refine Spec.is C56ok rfl ?_
 simp only [push_cast, simprocAttr]
 try (first | rfl | (congr 1; done) | (congr 1; rw [Bool.eq_iff_iff]; simp only [Bool.and_eq_true, Bool.or_eq_true, Bool.not_eq_true', decide_eq_true_eq, decide_eq_false_iff_not, Bool.false_eq_true, true_and, and_true]; first | omega | grind))
theorem Form_spec (hG : GF G) (op : Nat) (ho : op < 58) : Spec Tryd.prog G 52 [.int .i64 op] h (Is (.tup [.int .i64 (formN op : Nat), .int .i64 0]) h) := by
 have hh := has2_spec (G := G) (h := h) op
 have e : (decide (0 ≤ (op : Int)) && decide ((op : Int) < 58)) = true := by simp; omega
 rw [e] at hh
 have hg : G 0 = .cp formC 0 := hG
 have hf := formC_get op ho
 have hl := formC_len
 refine Spec.is C52ok rfl ?_
 simp only [push_cast, simprocAttr]
 refine hh.to ?_
 simp only [push_cast, simprocAttr, hg, hf, hl]
 omega
theorem top_spec (w : BitVec 32) (k : Nat) (hk : k ≤ 31) : Spec Tryd.prog G 110 [.int .u32 w.toNat, .int .u64 k] h (Is (.int .u32 (BitVec.ofNat 32 (if fld w 31 1 = 1 then 2 ^ 32 - 2 ^ k else 0)).toNat) h) := by
 have hw := w.isLt
 have e31 : w.toInt.fdiv (2 ^ 31) = if fld w 31 1 = 1 then -1 else 0 := by
  rw [Int.fdiv_eq_ediv_of_nonneg _ (by omega)]
  have h1 := BitVec.toInt_eq_toNat_cond w
  have h2 : fld w 31 1 = w.toNat / 2 ^ 31 % 2 ^ 1 := rfl
  rw [h1, h2]
  split <;> split <;> omega
 have hP : 2 ^ k ≤ 2 ^ 31 := Nat.pow_le_pow_right (by omega) hk
 have hp0 := Nat.two_pow_pos k
 have ek : ((2 : Int) ^ k) = ((2 ^ k : Nat) : Int) := pow_int k
 refine Spec.is C110ok rfl ?_
 simp (disch := omega) only [push_cast, simprocAttr, wrap_i64, toNat_ofInt64, Nat.min_eq_left, Int.toNat_of_nonneg]
 rw [show (2147483648 : Int) = 2 ^ 31 from rfl, e31, ek]
 generalize 2 ^ k = P at hP hp0 ⊢
 split
 ·have e1 : IntKind.i32.wrap (-1 * (P : Int)) = -(P : Int) := by
   rw [wrap_of (by constructor <;> simp [IntKind.min, IntKind.max, IntKind.signed, IntKind.bits] <;> omega)]; omega
  rw [e1]
  congr 2
  rw [BitVec.toNat_ofInt, BitVec.toNat_ofNat]
  omega
 ·have e1 : IntKind.i32.wrap (0 * (P : Int)) = 0 := by rw [Int.zero_mul]; rfl
  rw [e1]; rfl
end Go.Ab
end
section
namespace Go.Ab
open Go.Proofs
variable {G : Glo} {h : Heap}
def immN (w : BitVec 32) (f : Nat) : BitVec 32 :=
 if f = 1 then BitVec.ofNat 32 (fld w 12 20 * 4096)
 else if f = 2 then BitVec.ofNat 32 (extN (((fld w 31 1 * 256 + fld w 12 8) * 2 + fld w 20 1) * 2048 + fld w 21 10 * 2) 21)
 else if f = 3 then BitVec.ofNat 32 (extN (fld w 20 12) 12)
 else if f = 4 then BitVec.ofNat 32 (extN (((fld w 31 1 * 2 + fld w 7 1) * 64 + fld w 25 6) * 32 + fld w 8 4 * 2) 13)
 else if f = 5 then BitVec.ofNat 32 (extN (fld w 25 7 * 32 + fld w 7 5) 12)
 else if f = 7 then BitVec.ofNat 32 (fld w 20 5)
 else if f = 9 then BitVec.ofNat 32 (fld w 15 5)
 else 0#32
theorem or_low (k x y : Nat) (hx : x % 2 ^ k = 0) (hy : y < 2 ^ k) : x ||| y = x + y := by
 have h1 := Nat.div_add_mod x (2 ^ k)
 rw [hx, Nat.add_zero] at h1
 rw [← h1]
 exact (Nat.two_pow_add_eq_or_of_lt hy _).symm
def topN (w : BitVec 32) (k : Nat) : BitVec 32 := BitVec.ofNat 32 (if fld w 31 1 = 1 then 2 ^ 32 - 2 ^ k else 0)
theorem ofNat_toNat32 {n : Nat} (hn : n < 4294967296) : (BitVec.ofNat 32 n).toNat = n := by
 rw [BitVec.toNat_ofNat, Nat.mod_eq_of_lt (by omega)]
theorem ofNat_shl {n k : Nat} (hn : n * 2 ^ k < 4294967296) : (BitVec.ofNat 32 n <<< k).toNat = n * 2 ^ k := by
 have h1 : n < 4294967296 := by
  have := Nat.two_pow_pos k
  exact Nat.lt_of_le_of_lt (Nat.le_mul_of_pos_right n this) hn
 rw [BitVec.toNat_shiftLeft, ofNat_toNat32 h1, Nat.shiftLeft_eq, Nat.mod_eq_of_lt (by omega)]
theorem immJ (w : BitVec 32) : topN w 20 ||| BitVec.ofNat 32 (fld w 12 8) <<< 12 ||| BitVec.ofNat 32 (fld w 20 1) <<< 11 ||| BitVec.ofNat 32 (fld w 21 10) <<< 1 = immN w 2 := by
 have a1 := fld_lt w 12 8
 have a2 := fld_lt w 20 1
 have a3 := fld_lt w 21 10
 have a4 := fld_lt w 31 1
 have hN : immN w 2 = BitVec.ofNat 32 (extN (((fld w 31 1 * 256 + fld w 12 8) * 2 + fld w 20 1) * 2048 + fld w 21 10 * 2) 21) := rfl
 have hT : topN w 20 = BitVec.ofNat 32 (if fld w 31 1 = 1 then 2 ^ 32 - 2 ^ 20 else 0) := rfl
 rw [hN, hT]
 generalize fld w 12 8 = a at *
 generalize fld w 20 1 = b at *
 generalize fld w 21 10 = c at *
 generalize fld w 31 1 = t at *
 have ht : t = 0 ∨ t = 1 := by omega
 obtain ⟨T, hTT⟩ : ∃ T, (if t = 1 then 2 ^ 32 - 2 ^ 20 else 0) = T := ⟨_, rfl⟩
 have hT2 : T = t * 4293918720 := by rw [← hTT]; rcases ht with rfl | rfl <;> rfl
 rw [hTT]
 have hE : extN (((t * 256 + a) * 2 + b) * 2048 + c * 2) 21 = t * 4293918720 + a * 4096 + b * 2048 + c * 2 := by
  unfold extN
  simp only [Nat.reduceSub, Nat.reducePow]
  rw [Nat.mod_eq_of_lt (by omega)]
  split <;> omega
 rw [hE]
 apply BitVec.eq_of_toNat_eq
 simp only [BitVec.toNat_or]
 rw [ofNat_toNat32 (n := T) (by omega), ofNat_shl (by omega), ofNat_shl (by omega), ofNat_shl (by omega), ofNat_toNat32 (by omega), or_low 20 T (a * 2 ^ 12) (by omega) (by omega), or_low 12 (T + a * 2 ^ 12) (b * 2 ^ 11) (by omega) (by omega), or_low 11 (T + a * 2 ^ 12 + b * 2 ^ 11) (c * 2 ^ 1) (by omega) (by omega), hT2]
theorem immB (w : BitVec 32) : topN w 12 ||| BitVec.ofNat 32 (fld w 7 1) <<< 11 ||| BitVec.ofNat 32 (fld w 25 6) <<< 5 ||| BitVec.ofNat 32 (fld w 8 4) <<< 1 = immN w 4 := by
 have a1 := fld_lt w 7 1
 have a2 := fld_lt w 25 6
 have a3 := fld_lt w 8 4
 have a4 := fld_lt w 31 1
 have hN : immN w 4 = BitVec.ofNat 32 (extN (((fld w 31 1 * 2 + fld w 7 1) * 64 + fld w 25 6) * 32 + fld w 8 4 * 2) 13) := rfl
 have hT : topN w 12 = BitVec.ofNat 32 (if fld w 31 1 = 1 then 2 ^ 32 - 2 ^ 12 else 0) := rfl
 rw [hN, hT]
 generalize fld w 7 1 = a at *
 generalize fld w 25 6 = b at *
 generalize fld w 8 4 = c at *
 generalize fld w 31 1 = t at *
 have ht : t = 0 ∨ t = 1 := by omega
 obtain ⟨T, hTT⟩ : ∃ T, (if t = 1 then 2 ^ 32 - 2 ^ 12 else 0) = T := ⟨_, rfl⟩
 have hT2 : T = t * 4294963200 := by rw [← hTT]; rcases ht with rfl | rfl <;> rfl
 rw [hTT]
 have hE : extN (((t * 2 + a) * 64 + b) * 32 + c * 2) 13 = t * 4294963200 + a * 2048 + b * 32 + c * 2 := by
  unfold extN
  simp only [Nat.reduceSub, Nat.reducePow]
  rw [Nat.mod_eq_of_lt (by omega)]
  split <;> omega
 rw [hE]
 apply BitVec.eq_of_toNat_eq
 simp only [BitVec.toNat_or]
 rw [ofNat_toNat32 (n := T) (by omega), ofNat_shl (by omega), ofNat_shl (by omega), ofNat_shl (by omega), ofNat_toNat32 (by omega), or_low 12 T (a * 2 ^ 11) (by omega) (by omega), or_low 11 (T + a * 2 ^ 11) (b * 2 ^ 5) (by omega) (by omega), or_low 5 (T + a * 2 ^ 11 + b * 2 ^ 5) (c * 2 ^ 1) (by omega) (by omega), hT2]
theorem immS (w : BitVec 32) : topN w 11 ||| BitVec.ofNat 32 (fld w 25 6) <<< 5 ||| BitVec.ofNat 32 (fld w 7 5) = immN w 5 := by
 have a1 := fld_lt w 25 6
 have a2 := fld_lt w 7 5
 have a4 := fld_lt w 31 1
 have e25 : fld w 25 7 = fld w 31 1 * 64 + fld w 25 6 := by unfold fld; omega
 have hN : immN w 5 = BitVec.ofNat 32 (extN (fld w 25 7 * 32 + fld w 7 5) 12) := rfl
 have hT : topN w 11 = BitVec.ofNat 32 (if fld w 31 1 = 1 then 2 ^ 32 - 2 ^ 11 else 0) := rfl
 rw [hN, hT, e25]
 generalize fld w 25 6 = a at *
 generalize fld w 7 5 = b at *
 generalize fld w 31 1 = t at *
 have ht : t = 0 ∨ t = 1 := by omega
 obtain ⟨T, hTT⟩ : ∃ T, (if t = 1 then 2 ^ 32 - 2 ^ 11 else 0) = T := ⟨_, rfl⟩
 have hT2 : T = t * 4294965248 := by rw [← hTT]; rcases ht with rfl | rfl <;> rfl
 rw [hTT]
 have hE : extN ((t * 64 + a) * 32 + b) 12 = t * 4294965248 + a * 32 + b := by
  unfold extN
  simp only [Nat.reduceSub, Nat.reducePow]
  rw [Nat.mod_eq_of_lt (by omega)]
  split <;> omega
 rw [hE]
 apply BitVec.eq_of_toNat_eq
 simp only [BitVec.toNat_or]
 rw [ofNat_toNat32 (n := T) (by omega), ofNat_shl (by omega), ofNat_toNat32 (n := b) (by omega), ofNat_toNat32 (by omega), or_low 11 T (a * 2 ^ 5) (by omega) (by omega), or_low 5 (T + a * 2 ^ 5) b (by omega) (by omega), hT2]
theorem immU (w : BitVec 32) : w &&& ~~~ 4095#32 = immN w 1 := by
 have hw := w.isLt
 have hN : immN w 1 = BitVec.ofNat 32 (fld w 12 20 * 4096) := rfl
 have a1 := fld_lt w 12 20
 have h1 := and_hi w.toNat 1048575 0 12 (by decide)
 have h2 := Nat.and_two_pow_sub_one_eq_mod (w.toNat / 4096) 20
 simp only [Nat.reducePow, Nat.reduceMul, Nat.reduceAdd, Nat.reduceSub, Nat.and_zero, Nat.add_zero] at h1 h2
 rw [hN]
 apply BitVec.eq_of_toNat_eq
 rw [BitVec.toNat_and, show (~~~ 4095#32).toNat = 4294963200 from rfl, h1, h2, ofNat_toNat32 (by omega)]
 unfold fld
 simp only [Nat.reducePow]
 omega
theorem immI (w : BitVec 32) : BitVec.ofInt 32 (w.toInt.fdiv (2 ^ 20)) = immN w 3 := by
 have hw := w.isLt
 have hN : immN w 3 = BitVec.ofNat 32 (extN (fld w 20 12) 12) := rfl
 have h1 := BitVec.toInt_eq_toNat_cond w
 have a1 := fld_lt w 20 12
 have hf : fld w 20 12 = w.toNat / 1048576 := by unfold fld; omega
 have hE : extN (fld w 20 12) 12 = if 2048 ≤ fld w 20 12 then fld w 20 12 + 4294963200 else fld w 20 12 := by
  unfold extN
  simp only [Nat.reduceSub, Nat.reducePow]
  rw [Nat.mod_eq_of_lt (by omega)]
  split <;> omega
 rw [hN, hE, hf]
 apply BitVec.eq_of_toNat_eq
 rw [BitVec.toNat_ofInt, Int.fdiv_eq_ediv_of_nonneg _ (by omega), h1]
 split <;> split <;> (rw [ofNat_toNat32 (by omega)]; omega)
theorem shl1 (x : BitVec 32) : x <<< 1 = x * 2#32 := by
 apply BitVec.eq_of_toNat_eq
 simp [Nat.shiftLeft_eq]
theorem fld_v (w : BitVec 32) (lo k : Nat) (hk : k ≤ 31) : ((BitVec.ofNat 32 (fld w lo k)).toNat : Int) = (fld w lo k : Nat) := by
 have h1 := fld_lt w lo k
 have h2 : 2 ^ k ≤ 2 ^ 31 := Nat.pow_le_pow_right (by omega) hk
 rw [ofNat_toNat32 (by omega)]
theorem csr_v (w : BitVec 32) : ((w >>> 20).toNat : Int) = (fld w 20 12 : Nat) := by
 have := w.isLt
 rw [BitVec.toNat_ushiftRight, Nat.shiftRight_eq_div_pow]
 unfold fld
 omega
theorem top_spec' (w : BitVec 32) (k : Nat) (hk : k ≤ 31) : Spec Tryd.prog G 110 [.int .u32 w.toNat, .int .u64 k] h (Is (.int .u32 (topN w k).toNat) h) := top_spec w k hk
theorem number_spec (w : BitVec 32) (f : Nat) : Spec Tryd.prog G 108 [.int .u32 w.toNat, .int .i64 f] h (Is (.int .u32 (immN w f).toNat) h) := by
 have t20 := fun H : Heap => top_spec' (G := G) (h := H) w 20 (by omega)
 have t12 := fun H : Heap => top_spec' (G := G) (h := H) w 12 (by omega)
 have t11 := fun H : Heap => top_spec' (G := G) (h := H) w 11 (by omega)
 have F := fun (hi lo : Nat) (h1 : lo ≤ hi) (h2 : hi ≤ 31) => field_spec (G := G) (h := h) w hi lo h1 h2
 have m1 : min 12 32 = 12 := rfl
 have m2 : min 11 32 = 11 := rfl
 have m3 : min 1 32 = 1 := rfl
 have m4 : min 5 32 = 5 := rfl
 by_cases c1 : f = 1
 ·subst c1
  rw [← immU]
  refine Spec.is C108ok rfl ?_
  simp only [push_cast, simprocAttr]
 by_cases c2 : f = 2
 ·subst c2
  rw [← immJ]
  refine Spec.is C108ok rfl ?_
  simp only [push_cast, simprocAttr]
  refine (t20 _).to ?_
  simp only [push_cast, simprocAttr]
  refine (F 19 12 (by omega) (by omega)).to ?_
  simp only [push_cast, simprocAttr]
  refine (F 20 20 (by omega) (by omega)).to ?_
  simp only [push_cast, simprocAttr]
  refine (F 30 21 (by omega) (by omega)).to ?_
  simp only [push_cast, simprocAttr, m1, m2, m3]
  rw [shl1]
 by_cases c3 : f = 3
 ·subst c3
  rw [← immI]
  refine Spec.is C108ok rfl ?_
  simp only [push_cast, simprocAttr]
  rw [show min 20 32 = 20 from rfl, show (2 : Int) ^ 20 = 1048576 by decide]
 by_cases c4 : f = 4
 ·subst c4
  rw [← immB]
  refine Spec.is C108ok rfl ?_
  simp only [push_cast, simprocAttr]
  refine (t12 _).to ?_
  simp only [push_cast, simprocAttr]
  refine (F 7 7 (by omega) (by omega)).to ?_
  simp only [push_cast, simprocAttr]
  refine (F 30 25 (by omega) (by omega)).to ?_
  simp only [push_cast, simprocAttr]
  refine (F 11 8 (by omega) (by omega)).to ?_
  simp only [push_cast, simprocAttr, m1, m2, m3, m4]
  rw [shl1]
 by_cases c5 : f = 5
 ·subst c5
  rw [← immS]
  refine Spec.is C108ok rfl ?_
  simp only [push_cast, simprocAttr]
  refine (t11 _).to ?_
  simp only [push_cast, simprocAttr]
  refine (F 30 25 (by omega) (by omega)).to ?_
  simp only [push_cast, simprocAttr]
  refine (F 11 7 (by omega) (by omega)).to ?_
  simp only [push_cast, simprocAttr, m1, m2, m3, m4]
 by_cases c7 : f = 7
 ·subst c7
  have hN : immN w 7 = BitVec.ofNat 32 (fld w 20 5) := rfl
  rw [hN]
  refine Spec.is C108ok rfl ?_
  simp only [push_cast, simprocAttr]
  refine (F 24 20 (by omega) (by omega)).to ?_
  simp only [push_cast, simprocAttr]
 by_cases c9 : f = 9
 ·subst c9
  have hN : immN w 9 = BitVec.ofNat 32 (fld w 15 5) := rfl
  rw [hN]
  refine Spec.is C108ok rfl ?_
  simp only [push_cast, simprocAttr]
  refine (F 19 15 (by omega) (by omega)).to ?_
  simp only [push_cast, simprocAttr]
 have hN : immN w f = 0#32 := by simp [immN, c1, c2, c3, c4, c5, c7, c9]
 have n1 : ((f : Int) = 1) = False := by simp only [eq_iff_iff, iff_false]; omega
 have n2 : ((f : Int) = 2) = False := by simp only [eq_iff_iff, iff_false]; omega
 have n3 : ((f : Int) = 3) = False := by simp only [eq_iff_iff, iff_false]; omega
 have n4 : ((f : Int) = 4) = False := by simp only [eq_iff_iff, iff_false]; omega
 have n5 : ((f : Int) = 5) = False := by simp only [eq_iff_iff, iff_false]; omega
 have n7 : ((f : Int) = 7) = False := by simp only [eq_iff_iff, iff_false]; omega
 have n9 : ((f : Int) = 9) = False := by simp only [eq_iff_iff, iff_false]; omega
 rw [hN]
 refine Spec.is C108ok rfl ?_
 simp only [push_cast, simprocAttr, n1, n2, n3, n4, n5, n7, n9]
def laidN (w : BitVec 32) (op : Nat) : IIn :=
 let f := formN op
 ⟨op, if f = 0 ∨ f = 4 ∨ f = 5 then 0 else (fld w 7 5 : Nat), if f = 3 ∨ f = 4 ∨ f = 5 ∨ f = 6 ∨ f = 7 ∨ f = 8 then (fld w 15 5 : Nat) else 0, if f = 4 ∨ f = 5 ∨ f = 6 then (fld w 20 5 : Nat) else 0, immN w f, if f = 8 ∨ f = 9 then (fld w 20 12 : Nat) else 0⟩
def decI (w : BitVec 32) : IIn := if kindK w = 0 then IIn.zero else laidN w (kindK w)
theorem formN_le (op : Nat) : formN op ≤ 9 := by
 unfold formN
 by_cases h : op < formL.length
 ·simp only [List.getD_eq_getElem?_getD, List.getElem?_eq_getElem h, Option.getD_some]
  have : ∀ x ∈ formL, x ≤ 9 := by decide
  exact this _ (List.getElem_mem h)
 ·simp [Nat.not_lt.1 h]
theorem laid_spec (hG : GF G) (w : BitVec 32) (op : Nat) (ho : op < 58) : Spec Tryd.prog G 93 [.int .u32 w.toNat, .int .i64 op] h (Is (.agg (laidN w op).cells) h) := by
 have hf := fun H : Heap => Form_spec (G := G) (h := H) hG op ho
 have hn := fun H : Heap => number_spec (G := G) (h := H) w (formN op)
 have F := fun (H : Heap) (hi lo : Nat) (h1 : lo ≤ hi) (h2 : hi ≤ 31) => field_spec (G := G) (h := H) w hi lo h1 h2
 have hle := formN_le op
 have hL : (laidN w op).cells = [.int .i64 op, .int .i64 (if formN op = 0 ∨ formN op = 4 ∨ formN op = 5 then 0 else (fld w 7 5 : Nat)), .int .i64 (if formN op = 3 ∨ formN op = 4 ∨ formN op = 5 ∨ formN op = 6 ∨ formN op = 7 ∨ formN op = 8 then (fld w 15 5 : Nat) else 0), .int .i64 (if formN op = 4 ∨ formN op = 5 ∨ formN op = 6 then (fld w 20 5 : Nat) else 0), .int .u32 ((immN w (formN op)).toNat : Int), .int .i64 (if formN op = 8 ∨ formN op = 9 then (fld w 20 12 : Nat) else 0)] := rfl
 rw [hL]
 clear hL
 generalize immN w (formN op) = I at hn ⊢
 have hf' : formN op = 0 ∨ formN op = 1 ∨ formN op = 2 ∨ formN op = 3 ∨ formN op = 4 ∨ formN op = 5 ∨ formN op = 6 ∨ formN op = 7 ∨ formN op = 8 ∨ formN op = 9 := by omega
 generalize formN op = f at *
 rcases hf' with rfl | rfl | rfl | rfl | rfl | rfl | rfl | rfl | rfl | rfl <;>
 ·refine Spec.is C93ok rfl ?_
  simp only [push_cast, simprocAttr]
  intro c4 hc4
  refine (hf _).to ?_
  simp only [push_cast, simprocAttr]
  refine (hn _).to ?_
  simp only [push_cast, simprocAttr]
  intro c7 hc7
  have v1 := fld_v w 15 5 (by omega)
  have v2 := fld_v w 7 5 (by omega)
  have v3 := fld_v w 20 5 (by omega)
  have v4 := csr_v w
  have m20 : min 20 32 = 20 := rfl
  have l1 := fld_lt w 15 5
  have l2 := fld_lt w 7 5
  have l3 := fld_lt w 20 5
  have l4 := fld_lt w 20 12
  have w1 : IntKind.i64.wrap (fld w 15 5 : Nat) = (fld w 15 5 : Nat) := wrap_i64 (by omega) (by omega)
  have w2 : IntKind.i64.wrap (fld w 7 5 : Nat) = (fld w 7 5 : Nat) := wrap_i64 (by omega) (by omega)
  have w3 : IntKind.i64.wrap (fld w 20 5 : Nat) = (fld w 20 5 : Nat) := wrap_i64 (by omega) (by omega)
  have w4 : IntKind.i64.wrap (fld w 20 12 : Nat) = (fld w 20 12 : Nat) := wrap_i64 (by omega) (by omega)
  have n7 : c4 ≠ c7 := fun e => by rw [← e, upd_same] at hc7; cases hc7
  have u7 : ∀ (H : Heap) X, upd H c7 X c4 = H c4 := fun H X => upd_ne n7
  have p6 : ∀ a b c d e f : AV, partOf [a, b, c, d, e, f] 0 (some 6) = some (.agg [a, b, c, d, e, f]) := fun _ _ _ _ _ _ => rfl
  have hs : ∀ X Y Z, Sub h (upd (upd (upd h c4 X) c7 Y) c4 Z) := fun X Y Z => (((Sub.refl h).set hc4).set (upd_none hc7).2).set hc4
  clear hc7
  repeat (first
   | (refine (F _ 19 15 (by omega) (by omega)).to ?_; (try simp only [push_cast, simprocAttr, v1, v2, v3, v4, m20, w1, w2, w3, w4, u7, p6]))
   | (refine (F _ 24 20 (by omega) (by omega)).to ?_; (try simp only [push_cast, simprocAttr, v1, v2, v3, v4, m20, w1, w2, w3, w4, u7, p6]))
   | (refine (F _ 11 7 (by omega) (by omega)).to ?_; (try simp only [push_cast, simprocAttr, v1, v2, v3, v4, m20, w1, w2, w3, w4, u7, p6])))
  try simp only [push_cast, simprocAttr, v1, v2, v3, v4, m20, w1, w2, w3, w4, u7, p6]
  exact ⟨by simp, hs _ _ _⟩
theorem Decode_spec (hG : GF G) (w : BitVec 32) (hk : kindK w < 58) : Spec Tryd.prog G 71 [.int .u32 w.toNat] h (Is (.agg (decI w).cells) h) := by
 have hK := fun H : Heap => kind_spec (G := G) (h := H) w
 have hL := fun H : Heap => laid_spec (G := G) (h := H) hG w (kindK w) hk
 have p6 : ∀ a b c d e f : AV, partOf [a, b, c, d, e, f] 0 (some 6) = some (.agg [a, b, c, d, e, f]) := fun _ _ _ _ _ _ => rfl
 by_cases h0 : kindK w = 0
 ·have hD : decI w = IIn.zero := by rw [decI, if_pos h0]
  rw [hD]
  rw [h0] at hK
  refine Spec.is C71ok rfl ?_
  simp only [push_cast, simprocAttr]
  intro c2 hc2
  refine (hK _).to ?_
  simp only [push_cast, simprocAttr, p6]
  exact ⟨rfl, (Sub.refl h).set hc2⟩
 ·have hD : decI w = laidN w (kindK w) := by rw [decI, if_neg h0]
  rw [hD]
  have n0 : ((kindK w : Int) = 0) = False := by simp only [eq_iff_iff, iff_false]; omega
  generalize laidN w (kindK w) = I at hL ⊢
  have pall : partOf I.cells 0 (some 6) = some (.agg I.cells) := rfl
  have ps : splice [AV.int .i64 0, .int .i64 0, .int .i64 0, .int .i64 0, .int .u32 0, .int .i64 0] 0 I.cells = I.cells := splice_all' rfl
  generalize kindK w = K at *
  refine Spec.is C71ok rfl ?_
  simp only [push_cast, simprocAttr]
  intro c2 hc2
  refine (hK _).to ?_
  simp only [push_cast, simprocAttr, n0]
  refine (hL _).to ?_
  simp only [push_cast, simprocAttr, p6, pall, ps]
  exact (Sub.refl h).set hc2
end Go.Ab
end
section
namespace Go.Ab
open Go.Proofs
variable {G : Glo} {h : Heap}
theorem ofInt_cg {x : Int} {y : Int} (m : Int) (h : x = y + m * 4294967296) : BitVec.ofInt 32 x = BitVec.ofInt 32 y := by
 apply BitVec.eq_of_toNat_eq
 rw [BitVec.toNat_ofInt, BitVec.toNat_ofInt]
 omega
theorem sx_c (m P H : Nat) (q : Int) (hP : P = 2 * H) (hm : m < P) (hq : q = if H ≤ m then (m : Int) - P else m) (hle : P ≤ 4294967296) : BitVec.ofInt 32 q = BitVec.ofNat 32 (if H ≤ m then m + 4294967296 - P else m) := by
 subst hq
 split
 ·exact (ofInt_cg (y := ((m + 4294967296 - P : Nat) : Int)) (-1) (by omega)).trans (BitVec.ofInt_natCast ..)
 ·exact BitVec.ofInt_natCast ..
theorem sx12 (w : BitVec 32) : BitVec.ofInt 32 ((w <<< 20).toInt.fdiv (2 ^ 20)) = BitVec.ofNat 32 (extN w.toNat 12) := by
 have h1 := BitVec.toInt_eq_toNat_cond (w <<< 20)
 rw [BitVec.toNat_shiftLeft, Nat.shiftLeft_eq] at h1
 refine sx_c (w.toNat % 4096) 4096 2048 _ rfl (Nat.mod_lt _ (by omega)) ?_ (by omega)
 rw [pow_int, Int.fdiv_eq_ediv_of_nonneg _ (Int.natCast_nonneg _), h1]
 split <;> split <;> omega
theorem sx13 (w : BitVec 32) : BitVec.ofInt 32 ((w <<< 19).toInt.fdiv (2 ^ 19)) = BitVec.ofNat 32 (extN w.toNat 13) := by
 have h1 := BitVec.toInt_eq_toNat_cond (w <<< 19)
 rw [BitVec.toNat_shiftLeft, Nat.shiftLeft_eq] at h1
 refine sx_c (w.toNat % 8192) 8192 4096 _ rfl (Nat.mod_lt _ (by omega)) ?_ (by omega)
 rw [pow_int, Int.fdiv_eq_ediv_of_nonneg _ (Int.natCast_nonneg _), h1]
 split <;> split <;> omega
theorem sx21 (w : BitVec 32) : BitVec.ofInt 32 ((w <<< 11).toInt.fdiv (2 ^ 11)) = BitVec.ofNat 32 (extN w.toNat 21) := by
 have h1 := BitVec.toInt_eq_toNat_cond (w <<< 11)
 rw [BitVec.toNat_shiftLeft, Nat.shiftLeft_eq] at h1
 refine sx_c (w.toNat % 2097152) 2097152 1048576 _ rfl (Nat.mod_lt _ (by omega)) ?_ (by omega)
 rw [pow_int, Int.fdiv_eq_ediv_of_nonneg _ (Int.natCast_nonneg _), h1]
 split <;> split <;> omega
theorem isigned_spec (x : BitVec 32) (k : Nat) (hk : k = 12 ∨ k = 13 ∨ k = 21) (hx : BitVec.ofNat 32 (extN x.toNat k) = x) : Spec Tryd.prog G 84 [.int .u32 x.toNat, .int .i64 k] h (Is (.bool true) h) := by
 rcases hk with rfl | rfl | rfl
 ·have e := sx12 x
  rw [hx] at e
  have m : min (BitVec.ofInt 64 (IntKind.i64.wrap 20)).toNat 32 = 20 := rfl
  rw [show x <<< 20 = x * 1048576#32 by apply BitVec.eq_of_toNat_eq; simp [Nat.shiftLeft_eq], show (2 : Int) ^ 20 = 1048576 by decide] at e
  refine Spec.is C84ok rfl ?_
  simp only [push_cast, simprocAttr, m]
  rw [e]
  simp
 ·have e := sx13 x
  rw [hx] at e
  have m : min (BitVec.ofInt 64 (IntKind.i64.wrap 19)).toNat 32 = 19 := rfl
  rw [show x <<< 19 = x * 524288#32 by apply BitVec.eq_of_toNat_eq; simp [Nat.shiftLeft_eq], show (2 : Int) ^ 19 = 524288 by decide] at e
  refine Spec.is C84ok rfl ?_
  simp only [push_cast, simprocAttr, m]
  rw [e]
  simp
 ·have e := sx21 x
  rw [hx] at e
  have m : min (BitVec.ofInt 64 (IntKind.i64.wrap 11)).toNat 32 = 11 := rfl
  rw [show x <<< 11 = x * 2048#32 by apply BitVec.eq_of_toNat_eq; simp [Nat.shiftLeft_eq], show (2 : Int) ^ 11 = 2048 by decide] at e
  refine Spec.is C84ok rfl ?_
  simp only [push_cast, simprocAttr, m]
  rw [e]
  simp
theorem immN_12 (w : BitVec 32) (f : Nat) (hf : f = 3 ∨ f = 5) : BitVec.ofNat 32 (extN (immN w f).toNat 12) = immN w f := by
 have key : ∀ n, n < 4096 → BitVec.ofNat 32 (extN (BitVec.ofNat 32 (extN n 12)).toNat 12) = BitVec.ofNat 32 (extN n 12) := by
  intro n hn
  have h1 : extN n 12 < 4294967296 := by have := extN_lt n 12 (by omega); omega
  rw [ofNat_toNat32 h1]
  congr 1
  unfold extN
  simp only [Nat.reduceSub, Nat.reducePow]
  (repeat' split) <;> omega
 rcases hf with rfl | rfl
 ·exact key _ (by have := fld_lt w 20 12; omega)
 ·exact key _ (by have := fld_lt w 25 7; have := fld_lt w 7 5; omega)
theorem immN_13 (w : BitVec 32) : BitVec.ofNat 32 (extN (immN w 4).toNat 13) = immN w 4 ∧ (immN w 4).toNat % 2 = 0 := by
 have key : ∀ n, n < 8192 → n % 2 = 0 → BitVec.ofNat 32 (extN (BitVec.ofNat 32 (extN n 13)).toNat 13) = BitVec.ofNat 32 (extN n 13) ∧ (BitVec.ofNat 32 (extN n 13)).toNat % 2 = 0 := by
  intro n hn he
  have h1 : extN n 13 < 4294967296 := by have := extN_lt n 13 (by omega); omega
  rw [ofNat_toNat32 h1]
  refine ⟨?_, ?_⟩
  ·congr 1
   unfold extN
   simp only [Nat.reduceSub, Nat.reducePow]
   (repeat' split) <;> omega
  ·unfold extN
   simp only [Nat.reduceSub, Nat.reducePow]
   split <;> omega
 have a1 := fld_lt w 7 1
 have a2 := fld_lt w 25 6
 have a3 := fld_lt w 8 4
 have a4 := fld_lt w 31 1
 exact key (((fld w 31 1 * 2 + fld w 7 1) * 64 + fld w 25 6) * 32 + fld w 8 4 * 2) (by omega) (by omega)
theorem immN_21 (w : BitVec 32) : BitVec.ofNat 32 (extN (immN w 2).toNat 21) = immN w 2 ∧ (immN w 2).toNat % 2 = 0 := by
 have key : ∀ n, n < 2097152 → n % 2 = 0 → BitVec.ofNat 32 (extN (BitVec.ofNat 32 (extN n 21)).toNat 21) = BitVec.ofNat 32 (extN n 21) ∧ (BitVec.ofNat 32 (extN n 21)).toNat % 2 = 0 := by
  intro n hn he
  have h1 : extN n 21 < 4294967296 := by have := extN_lt n 21 (by omega); omega
  rw [ofNat_toNat32 h1]
  refine ⟨?_, ?_⟩
  ·congr 1
   unfold extN
   simp only [Nat.reduceSub, Nat.reducePow]
   (repeat' split) <;> omega
  ·unfold extN
   simp only [Nat.reduceSub, Nat.reducePow]
   split <;> omega
 have a1 := fld_lt w 12 8
 have a2 := fld_lt w 20 1
 have a3 := fld_lt w 21 10
 have a4 := fld_lt w 31 1
 exact key (((fld w 31 1 * 256 + fld w 12 8) * 2 + fld w 20 1) * 2048 + fld w 21 10 * 2) (by omega) (by omega)
theorem ieven_spec (x : BitVec 32) (k : Nat) (hk : k = 13 ∨ k = 21) (hx : BitVec.ofNat 32 (extN x.toNat k) = x) (he : x.toNat % 2 = 0) : Spec Tryd.prog G 83 [.int .u32 x.toNat, .int .i64 k] h (Is (.bool true) h) := by
 have hs := isigned_spec (G := G) (h := h) x k (by omega) hx
 have e1 : (x &&& 1#32).toNat = 0 := by
  have := and_mod x 1 (by omega)
  simp at this ⊢
  omega
 have e2 : x &&& 1#32 = 0#32 := BitVec.eq_of_toNat_eq e1
 refine Spec.is C83ok rfl ?_
 simp only [push_cast, simprocAttr, e2]
 refine hs.to ?_
 simp only [push_cast, simprocAttr]
theorem inumber_spec (w : BitVec 32) (f : Nat) (hf : f ≤ 9) : Spec Tryd.prog G 55 [.int .u32 (immN w f).toNat, .int .i64 f] h (Is (.bool true) h) := by
 have hf' : f = 0 ∨ f = 1 ∨ f = 2 ∨ f = 3 ∨ f = 4 ∨ f = 5 ∨ f = 6 ∨ f = 7 ∨ f = 8 ∨ f = 9 := by omega
 rcases hf' with rfl | rfl | rfl | rfl | rfl | rfl | rfl | rfl | rfl | rfl
 ·refine Spec.is C55ok rfl ?_
  simp only [push_cast, simprocAttr]
 ·have hU : immN w 1 &&& 4095#32 = 0#32 := by
   rw [← immU]
   apply BitVec.eq_of_getLsbD_eq
   intro i hi
   simp only [BitVec.getLsbD_and, BitVec.getLsbD_not]
   simp
  generalize immN w 1 = x at *
  refine Spec.is C55ok rfl ?_
  simp only [push_cast, simprocAttr, hU]
 ·obtain ⟨e1, e2⟩ := immN_21 w
  have := ieven_spec (G := G) (h := h) _ 21 (.inr rfl) e1 e2
  generalize immN w 2 = x at *
  refine Spec.is C55ok rfl ?_
  simp only [push_cast, simprocAttr]
  refine this.to ?_
  simp only [push_cast, simprocAttr]
 ·have := isigned_spec (G := G) (h := h) _ 12 (.inl rfl) (immN_12 w 3 (.inl rfl))
  generalize immN w 3 = x at *
  refine Spec.is C55ok rfl ?_
  simp only [push_cast, simprocAttr]
  refine this.to ?_
  simp only [push_cast, simprocAttr]
 ·obtain ⟨e1, e2⟩ := immN_13 w
  have := ieven_spec (G := G) (h := h) _ 13 (.inl rfl) e1 e2
  generalize immN w 4 = x at *
  refine Spec.is C55ok rfl ?_
  simp only [push_cast, simprocAttr]
  refine this.to ?_
  simp only [push_cast, simprocAttr]
 ·have := isigned_spec (G := G) (h := h) _ 12 (.inl rfl) (immN_12 w 5 (.inr rfl))
  generalize immN w 5 = x at *
  refine Spec.is C55ok rfl ?_
  simp only [push_cast, simprocAttr]
  refine this.to ?_
  simp only [push_cast, simprocAttr]
 ·refine Spec.is C55ok rfl ?_
  simp only [push_cast, simprocAttr]
 ·have hl : (immN w 7).toNat ≤ 31 := by
   have := fld_lt w 20 5
   have hN : immN w 7 = BitVec.ofNat 32 (fld w 20 5) := rfl
   rw [hN, ofNat_toNat32 (by omega)]; omega
  generalize immN w 7 = x at *
  refine Spec.is C55ok rfl ?_
  simp only [push_cast, simprocAttr]
  simp; omega
 ·refine Spec.is C55ok rfl ?_
  simp only [push_cast, simprocAttr]
 ·have hl : (immN w 9).toNat ≤ 31 := by
   have := fld_lt w 15 5
   have hN : immN w 9 = BitVec.ofNat 32 (fld w 15 5) := rfl
   rw [hN, ofNat_toNat32 (by omega)]; omega
  generalize immN w 9 = x at *
  refine Spec.is C55ok rfl ?_
  simp only [push_cast, simprocAttr]
  simp; omega
end Go.Ab
end
section
namespace Go.Ab
open Go.Proofs
variable {G : Glo} {h : Heap}
theorem laid_zero (w : BitVec 32) : laidN w 0 = IIn.zero := by
 unfold laidN
 rw [show formN 0 = 0 from rfl]
 simp [IIn.zero, immN]
theorem dec_laid (w : BitVec 32) : decI w = laidN w (kindK w) := by
 unfold decI
 split
 ·rename_i e; rw [e, laid_zero]
 ·rfl
theorem laid_cells (w : BitVec 32) (n : Nat) : (laidN w n).cells = [.int .i64 n, .int .i64 (if formN n = 0 ∨ formN n = 4 ∨ formN n = 5 then 0 else (fld w 7 5 : Nat)), .int .i64 (if formN n = 3 ∨ formN n = 4 ∨ formN n = 5 ∨ formN n = 6 ∨ formN n = 7 ∨ formN n = 8 then (fld w 15 5 : Nat) else 0), .int .i64 (if formN n = 4 ∨ formN n = 5 ∨ formN n = 6 then (fld w 20 5 : Nat) else 0), .int .u32 ((immN w (formN n)).toNat : Int), .int .i64 (if formN n = 8 ∨ formN n = 9 then (fld w 20 12 : Nat) else 0)] := rfl
theorem immN_0 (w : BitVec 32) (f : Nat) (hf : f = 0 ∨ f = 6 ∨ f = 8) : immN w f = 0#32 := by rcases hf with rfl | rfl | rfl <;> rfl
theorem only_spec (w : BitVec 32) (n : Nat) : Spec Tryd.prog G 53 [.agg (laidN w n).cells, .int .i64 (formN n : Nat)] h (Is (.agg (laidN w n).cells) h) := by
 have hle := formN_le n
 have i0 := immN_0 w
 have p6 : ∀ a b c d e f : AV, partOf [a, b, c, d, e, f] 0 (some 6) = some (.agg [a, b, c, d, e, f]) := fun _ _ _ _ _ _ => rfl
 rw [laid_cells]
 have hf' : formN n = 0 ∨ formN n = 1 ∨ formN n = 2 ∨ formN n = 3 ∨ formN n = 4 ∨ formN n = 5 ∨ formN n = 6 ∨ formN n = 7 ∨ formN n = 8 ∨ formN n = 9 := by omega
 have iz := i0 (formN n)
 clear i0
 generalize hI : immN w (formN n) = I at *
 clear hI
 generalize formN n = f at *
 rcases hf' with rfl | rfl | rfl | rfl | rfl | rfl | rfl | rfl | rfl | rfl <;>
 ·simp only [Nat.reduceEqDiff, or_false, or_true, false_or, true_or, if_true, if_false, reduceIte, true_implies, forall_const] at iz ⊢
  try subst iz
  refine Spec.is C53ok rfl ?_
  simp only [push_cast, simprocAttr, p6]
  intro c4 hc4 c5 hc5
  obtain ⟨n5, hc5h⟩ := upd_none hc5
  have u5 : ∀ (H : Heap) X, upd H c5 X c4 = H c4 := fun H X => upd_ne (Ne.symm n5)
  have hs : ∀ X Y Z, Sub h (upd (upd (upd h c4 X) c5 Y) c4 Z) := fun X Y Z => (((Sub.refl h).set hc4).set hc5h).set hc4
  clear hc5
  try simp only [push_cast, simprocAttr, p6, u5]
  first | exact hs _ _ _ | exact ⟨rfl, hs _ _ _⟩ | exact ⟨by simp, hs _ _ _⟩
theorem in_self (i : IIn) : aeq true [.i, .i, .i, .i, .i, .i] (.agg i.cells) (.agg i.cells) = some (.bool false) := by
 simp [aeq, cellsEq, IIn.cells]
theorem reg2_spec (n : Int) (h0 : 0 ≤ n) (h1 : n ≤ 31) : Spec Tryd.prog G 54 [.int .i64 n] h (Is (.bool true) h) := by
 have e : decide (n ≥ 0) = true := decide_eq_true h0
 have e2 : decide (n ≤ 31) = true := decide_eq_true h1
 refine Spec.is C54ok rfl ?_
 simp only [push_cast, simprocAttr, e, e2]
theorem laid_ok (w : BitVec 32) (n : Nat) : (0 ≤ (laidN w n).rd ∧ (laidN w n).rd ≤ 31) ∧ (0 ≤ (laidN w n).rs1 ∧ (laidN w n).rs1 ≤ 31) ∧ (0 ≤ (laidN w n).rs2 ∧ (laidN w n).rs2 ≤ 31) ∧ 0 ≤ (laidN w n).csr ∧ (laidN w n).csr ≤ 4095 := by
 have l1 := fld_lt w 15 5
 have l2 := fld_lt w 7 5
 have l3 := fld_lt w 20 5
 have l4 := fld_lt w 20 12
 unfold laidN
 simp only
 refine ⟨?_, ?_, ?_, ?_⟩ <;> split <;> omega
theorem iRight_spec (hG : GF G) (w : BitVec 32) (n : Nat) (hn : n < 58) : Spec Tryd.prog G 31 [.agg (laidN w n).cells] h (Is (.bool true) h) := by
 have hf := fun H : Heap => Form_spec (G := G) (h := H) hG n hn
 have ho := fun H : Heap => only_spec (G := G) (h := H) w n
 have hi := fun H : Heap => inumber_spec (G := G) (h := H) w (formN n) (formN_le n)
 obtain ⟨⟨a1, a2⟩, ⟨b1, b2⟩, ⟨c1, c2⟩, d1, d2⟩ := laid_ok w n
 have e1 : (laidN w n).op = n := rfl
 have e2 : (laidN w n).imm = immN w (formN n) := rfl
 have is := in_self (laidN w n)
 rw [← e2] at hi
 generalize laidN w n = I at *
 generalize formN n = f at *
 have r1 := fun H : Heap => reg2_spec (G := G) (h := H) I.rd a1 a2
 have r2 := fun H : Heap => reg2_spec (G := G) (h := H) I.rs1 b1 b2
 have r3 := fun H : Heap => reg2_spec (G := G) (h := H) I.rs2 c1 c2
 have g1 : decide (I.csr ≥ 0) = true := decide_eq_true d1
 have g2 : decide (I.csr ≤ 4095) = true := decide_eq_true d2
 refine Spec.is C31ok rfl ?_
 simp only [push_cast, simprocAttr, e1]
 refine (hf _).to ?_
 simp only [push_cast, simprocAttr, is]
 refine (ho _).to ?_
 simp only [push_cast, simprocAttr, is]
 refine (r1 _).to ?_
 simp only [push_cast, simprocAttr, is]
 refine (r2 _).to ?_
 simp only [push_cast, simprocAttr, is]
 refine (r3 _).to ?_
 simp only [push_cast, simprocAttr, is]
 refine (hi _).to ?_
 simp only [push_cast, simprocAttr, g1, g2]
theorem has3_spec (op : Nat) (ho : op < 58) : Spec Tryd.prog G 56 [.int .i64 op] h (Is (.bool true) h) := by
 have hh := has2_spec (G := G) (h := h) op
 have e : (decide (0 ≤ (op : Int)) && decide ((op : Int) < 58)) = true := by simp; omega
 rw [e] at hh
 exact hh
def endsN (op : Nat) : Bool := decide (op = 0) || (decide (3 ≤ op) && decide (op ≤ 10)) || (decide (39 ≤ op) && decide (op ≤ 49))
theorem Ends_spec (op : Nat) (ho : op < 58) : Spec Tryd.prog G 32 [.int .i64 op] h (Is (.bool (endsN op)) h) := by
 by_cases c0 : op = 0
 ·subst c0
  refine Spec.is C32ok rfl ?_
  simp only [push_cast, simprocAttr]
  refine (has3_spec 0 (by omega)).to ?_
  simp only [push_cast, simprocAttr]
  rfl
 have z0 : ((op : Int) == 0) = false := by rw [beq_eq_false_iff_ne]; omega
 by_cases c1 : 3 ≤ op ∧ op ≤ 10
 ·have hN : endsN op = true := by simp [endsN, c1.1, c1.2]
  have z1 : ((op : Int) ≥ 3) = True := by simp only [eq_iff_iff, iff_true]; omega
  have z2 : ((op : Int) ≤ 10) = True := by simp only [eq_iff_iff, iff_true]; omega
  rw [hN]
  refine Spec.is C32ok rfl ?_
  simp only [push_cast, simprocAttr]
  refine (has3_spec op ho).to ?_
  simp only [push_cast, simprocAttr, z0, z1, z2]
 by_cases c2 : 39 ≤ op ∧ op ≤ 49
 ·have hN : endsN op = true := by simp [endsN, c2.1, c2.2]
  have z1 : ((op : Int) ≥ 3) = True := by simp only [eq_iff_iff, iff_true]; omega
  have z2 : ((op : Int) ≤ 10) = False := by simp only [eq_iff_iff, iff_false]; omega
  have z3 : ((op : Int) ≥ 39) = True := by simp only [eq_iff_iff, iff_true]; omega
  have z4 : ((op : Int) ≤ 49) = True := by simp only [eq_iff_iff, iff_true]; omega
  rw [hN]
  refine Spec.is C32ok rfl ?_
  simp only [push_cast, simprocAttr]
  refine (has3_spec op ho).to ?_
  simp only [push_cast, simprocAttr, z0, z1, z2, z3, z4]
 have hN : endsN op = false := by
  simp only [endsN, Bool.or_eq_false_iff, Bool.and_eq_false_iff, decide_eq_false_iff_not]
  omega
 rw [hN]
 refine Spec.is C32ok rfl ?_
 simp only [push_cast, simprocAttr]
 refine (has3_spec op ho).to ?_
 have d1 : (decide ((op : Int) ≥ 3) && decide ((op : Int) ≤ 10)) = false := by
  simp only [Bool.and_eq_false_iff, decide_eq_false_iff_not]; omega
 have d2 : (decide ((op : Int) ≥ 39) && decide ((op : Int) ≤ 49)) = false := by
  simp only [Bool.and_eq_false_iff, decide_eq_false_iff_not]; omega
 simp only [push_cast, simprocAttr, z0, d1, d2]
def brN (op : Nat) : Bool := decide (5 ≤ op) && decide (op ≤ 10)
theorem branch_spec (op : Nat) : Spec Tryd.prog G 28 [.int .i64 op] h (Is (.bool (brN op)) h) := by
 have hN : brN op = (decide (5 ≤ op) && decide (op ≤ 10)) := rfl
 generalize brN op = N at hN ⊢
 refine Spec.is C28ok rfl ?_
 simp only [push_cast, simprocAttr]
 rw [hN]
 (first | rfl | (congr 1; done) | (congr 1; rw [Bool.eq_iff_iff]; simp only [Bool.and_eq_true, Bool.or_eq_true, Bool.not_eq_true', decide_eq_true_eq, decide_eq_false_iff_not, Bool.false_eq_true, true_and, and_true]; first | omega | grind))
def canN (w : BitVec 32) (n : Nat) : Bool := if n = 3 then decide ((immN w (formN n)).toNat % 4 = 0) else if n = 4 then true else if brN n then true else !endsN n
theorem Can_spec (hG : GF G) (w : BitVec 32) (n : Nat) (hn : n < 58) : Spec Tryd.prog G 15 [.agg (laidN w n).cells] h (Is (.bool (canN w n)) h) := by
 have hr := fun H : Heap => iRight_spec (G := G) (h := H) hG w n hn
 have hb := fun H : Heap => branch_spec (G := G) (h := H) n
 have he := fun H : Heap => Ends_spec (G := G) (h := H) n hn
 have e1 : (laidN w n).op = n := rfl
 have e2 : (laidN w n).imm = immN w (formN n) := rfl
 have hC : canN w n = if n = 3 then decide ((laidN w n).imm.toNat % 4 = 0) else if n = 4 then true else if brN n then true else !endsN n := by rw [canN, e2]
 rw [hC]
 clear hC e2
 generalize laidN w n = I at *
 generalize brN n = B at *
 generalize endsN n = E at *
 by_cases c3 : n = 3
 ·subst c3
  refine Spec.is C15ok rfl ?_
  simp only [push_cast, simprocAttr, e1]
  refine (hr _).to ?_
  simp only [push_cast, simprocAttr, e1]
  rw [Int.tmod_eq_emod_of_nonneg (by omega)]
  congr 1
  rw [Bool.eq_iff_iff]
  simp only [beq_iff_eq, decide_eq_true_eq]
  omega
 ·have n3 : ((n : Int) = 3) = False := by simp only [eq_iff_iff, iff_false]; omega
  rw [if_neg c3]
  by_cases c4 : n = 4
  ·subst c4
   rw [if_pos rfl]
   refine Spec.is C15ok rfl ?_
   simp only [push_cast, simprocAttr, e1]
   refine (hr _).to ?_
   simp only [push_cast, simprocAttr, e1]
  ·have n4 : ((n : Int) = 4) = False := by simp only [eq_iff_iff, iff_false]; omega
   rw [if_neg c4]
   refine Spec.is C15ok rfl ?_
   simp only [push_cast, simprocAttr, e1]
   refine (hr _).to ?_
   simp only [push_cast, simprocAttr, e1, n3, n4]
   refine (hb _).to ?_
   cases B
   ·simp only [push_cast, simprocAttr, e1]
    refine (he _).to ?_
    simp only [push_cast, simprocAttr]
   ·simp only [push_cast, simprocAttr, e1]
end Go.Ab
end
section
namespace Go.Ab
open Go.Proofs
def kN (o f3 f7 W : Nat) : Nat := if o = 0x37 then 1 else if o = 0x17 then 2 else if o = 0x6f then 3 else if o = 0x67 then (if f3 = 0 then 4 else 0) else if o = 0x63 then branchK f3 else if o = 0x03 then loadK f3
 else if o = 0x23 then (if f3 < 3 then 16 + f3 else 0) else if o = 0x13 then immK f3 f7 else if o = 0x33 then regK f3 f7 else if o = 0x0f then (if f3 < 2 then 38 + f3 else 0) else if o = 0x73 then sysK f3 W else 0
theorem kindK_eq (w : BitVec 32) : kindK w = kN (fld w 0 7) (fld w 12 3) (fld w 25 7) w.toNat := rfl
theorem branchR (f3 : Nat) (h : f3 < 8) : (branchK f3 = 0 ∧ (f3 = 2 ∨ f3 = 3)) ∨ (branchK f3 = 5 ∧ f3 = 0) ∨ (branchK f3 = 6 ∧ f3 = 1) ∨ (branchK f3 = 7 ∧ f3 = 4) ∨ (branchK f3 = 8 ∧ f3 = 5) ∨ (branchK f3 = 9 ∧ f3 = 6) ∨ (branchK f3 = 10 ∧ f3 = 7) := by revert h; revert f3; decide
theorem loadR (f3 : Nat) (h : f3 < 8) : (loadK f3 = 0 ∧ (f3 = 3 ∨ f3 = 6 ∨ f3 = 7)) ∨ (loadK f3 = 11 ∧ f3 = 0) ∨ (loadK f3 = 12 ∧ f3 = 1) ∨ (loadK f3 = 13 ∧ f3 = 2) ∨ (loadK f3 = 14 ∧ f3 = 4) ∨ (loadK f3 = 15 ∧ f3 = 5) := by revert h; revert f3; decide
theorem immR (f3 f7 : Nat) (h : f3 < 8) : (immK f3 f7 = 0 ∨ 19 ≤ immK f3 f7) ∧ immK f3 f7 ≤ 27 ∧ (immK f3 f7 = 19 ↔ f3 = 0) ∧ (immK f3 f7 = 20 ↔ f3 = 2) ∧ (immK f3 f7 = 21 ↔ f3 = 3) ∧ (immK f3 f7 = 22 ↔ f3 = 4) ∧ (immK f3 f7 = 23 ↔ f3 = 6) ∧ (immK f3 f7 = 24 ↔ f3 = 7) ∧ (immK f3 f7 = 25 ↔ f3 = 1 ∧ f7 = 0) ∧ (immK f3 f7 = 26 ↔ f3 = 5 ∧ f7 = 0) ∧ (immK f3 f7 = 27 ↔ f3 = 5 ∧ f7 = 32) := by
 obtain ⟨K, hK⟩ : ∃ K, immK f3 f7 = K := ⟨_, rfl⟩; rw [hK]; unfold immK at hK
 (repeat' (split at hK)) <;> (subst hK; omega)
theorem regR (f3 f7 : Nat) (h : f3 < 8) : (regK f3 f7 = 0 ∨ 28 ≤ regK f3 f7) ∧ (regK f3 f7 < 38 ∨ 50 ≤ regK f3 f7) ∧ regK f3 f7 ≤ 57 ∧ (regK f3 f7 = 28 ↔ f7 = 0 ∧ f3 = 0) ∧ (regK f3 f7 = 30 ↔ f7 = 0 ∧ f3 = 1) ∧ (regK f3 f7 = 31 ↔ f7 = 0 ∧ f3 = 2) ∧ (regK f3 f7 = 32 ↔ f7 = 0 ∧ f3 = 3) ∧ (regK f3 f7 = 33 ↔ f7 = 0 ∧ f3 = 4) ∧ (regK f3 f7 = 34 ↔ f7 = 0 ∧ f3 = 5) ∧ (regK f3 f7 = 36 ↔ f7 = 0 ∧ f3 = 6) ∧ (regK f3 f7 = 37 ↔ f7 = 0 ∧ f3 = 7) ∧ (regK f3 f7 = 50 ↔ f7 = 1 ∧ f3 = 0) ∧ (regK f3 f7 = 51 ↔ f7 = 1 ∧ f3 = 1) ∧ (regK f3 f7 = 52 ↔ f7 = 1 ∧ f3 = 2) ∧ (regK f3 f7 = 53 ↔ f7 = 1 ∧ f3 = 3) ∧ (regK f3 f7 = 54 ↔ f7 = 1 ∧ f3 = 4) ∧ (regK f3 f7 = 55 ↔ f7 = 1 ∧ f3 = 5) ∧ (regK f3 f7 = 56 ↔ f7 = 1 ∧ f3 = 6) ∧ (regK f3 f7 = 57 ↔ f7 = 1 ∧ f3 = 7) ∧ (regK f3 f7 = 29 ↔ f7 = 32 ∧ f3 = 0) ∧ (regK f3 f7 = 35 ↔ f7 = 32 ∧ f3 = 5) := by
 obtain ⟨K, hK⟩ : ∃ K, regK f3 f7 = K := ⟨_, rfl⟩; rw [hK]; unfold regK at hK
 have hf : f3 = 0 ∨ f3 = 1 ∨ f3 = 2 ∨ f3 = 3 ∨ f3 = 4 ∨ f3 = 5 ∨ f3 = 6 ∨ f3 = 7 := by omega
 rcases hf with rfl | rfl | rfl | rfl | rfl | rfl | rfl | rfl <;> simp only [List.getD_cons_zero, List.getD_cons_succ, Nat.reduceEqDiff, if_true, if_false, Nat.reduceAdd, reduceIte] at hK <;> (repeat' (split at hK)) <;> (subst hK; omega)
theorem sysR (f3 W : Nat) (h : f3 < 8) : (sysK f3 W = 0 ∨ 40 ≤ sysK f3 W) ∧ sysK f3 W ≤ 49 ∧ (sysK f3 W = 42 ↔ f3 = 1) ∧ (sysK f3 W = 43 ↔ f3 = 2) ∧ (sysK f3 W = 44 ↔ f3 = 3) ∧ (sysK f3 W = 45 ↔ f3 = 5) ∧ (sysK f3 W = 46 ↔ f3 = 6) ∧ (sysK f3 W = 47 ↔ f3 = 7) ∧ (sysK f3 W = 40 ↔ (f3 = 0 ∨ f3 = 4) ∧ W = 0x73) ∧ (sysK f3 W = 41 ↔ (f3 = 0 ∨ f3 = 4) ∧ W = 0x100073) ∧ (sysK f3 W = 48 ↔ (f3 = 0 ∨ f3 = 4) ∧ W = 0x30200073) ∧ (sysK f3 W = 49 ↔ (f3 = 0 ∨ f3 = 4) ∧ W = 0x10500073) := by
 obtain ⟨K, hK⟩ : ∃ K, sysK f3 W = K := ⟨_, rfl⟩; rw [hK]; unfold sysK at hK
 (repeat' (split at hK)) <;> (subst hK; omega)
end Go.Ab
end
section
namespace Go.Ab
open Go.Proofs
theorem ite_lt {c : Prop} [Decidable c] {a b n : Nat} (ha : a < n) (hb : b < n) : (if c then a else b) < n := by split <;> assumption
theorem kindK_lt (w : BitVec 32) : kindK w < 58 := by
 have h3 := fld_lt w 12 3
 rw [kindK_eq]; unfold kN
 have r1 : branchK (fld w 12 3) ≤ 10 := by have := branchR _ h3; omega
 have r2 : loadK (fld w 12 3) ≤ 15 := by have := loadR _ h3; omega
 have r3 := (immR _ (fld w 25 7) h3).2.1; have r4 := (regR _ (fld w 25 7) h3).2.2.1; have r5 := (sysR _ w.toNat h3).2.1
 generalize branchK (fld w 12 3) = K1 at *; generalize loadK (fld w 12 3) = K2 at *; generalize immK (fld w 12 3) (fld w 25 7) = K3 at *; generalize regK (fld w 12 3) (fld w 25 7) = K4 at *; generalize sysK (fld w 12 3) w.toNat = K5 at *
 generalize fld w 12 3 = f at *; generalize fld w 0 7 = o at *
 have h3' : f < 8 := h3
 clear h3
 refine ite_lt (by omega) (ite_lt (by omega) (ite_lt (by omega) (ite_lt (ite_lt (by omega) (by omega)) (ite_lt (by omega) (ite_lt (by omega) (ite_lt (ite_lt (by omega) (by omega)) (ite_lt (by omega) (ite_lt (by omega) (ite_lt (ite_lt (by omega) (by omega)) (ite_lt (by omega) (by omega)))))))))))
end Go.Ab
end
section
namespace Go.Ab
open Go.Proofs
variable {G : Glo} {h : Heap}
end Go.Ab
end
section
namespace Go.Ab
open Go.Proofs
variable {G : Glo} {h : Heap}
end Go.Ab
end
section
namespace Go.Ab
open Go.Proofs
variable {G : Glo} {h : Heap}
end Go.Ab
end
section
namespace Go.Ab
open Go.Proofs
variable {G : Glo} {h : Heap}
end Go.Ab
end
section
namespace Go.Ab
open Go.Proofs
variable {G : Glo} {h : Heap}
end Go.Ab
end
section
namespace Go.Ab
open Go.Proofs
variable {G : Glo} {h : Heap}
def bos (l : List Bool) : List AV := l.map .bool
def qws (l : List (BitVec 64)) : List AV := l.map fun x => .int .u64 (x.toNat : Int)
@[push_cast] theorem bos_len (l) : (bos l).length = l.length := by simp [bos]
@[push_cast] theorem qws_len (l) : (qws l).length = l.length := by simp [qws]
@[push_cast] theorem bos_get (l : List Bool) (i : Nat) : (bos l)[i]? = if i < l.length then some (AV.bool (l.getD i false)) else none := by
 simp only [bos, List.getElem?_map]
 split
 ·rename_i h; simp [h]
 ·rename_i h; simp [Nat.not_lt.1 h]
@[push_cast] theorem qws_get (l : List (BitVec 64)) (i : Nat) : (qws l)[i]? = if i < l.length then some (AV.int .u64 ((l.getD i 0#64).toNat : Int)) else none := by
 simp only [qws, List.getElem?_map]
 split
 ·rename_i h; simp [h]
 ·rename_i h; simp [Nat.not_lt.1 h]
@[push_cast] theorem bos_set (l : List Bool) (i : Nat) (b : Bool) : (bos l).set i (.bool b) = bos (l.set i b) := by simp [bos, List.map_set]
@[push_cast] theorem qws_set (l : List (BitVec 64)) (i : Nat) (x : BitVec 64) : (qws l).set i (.int .u64 (x.toNat : Int)) = qws (l.set i x) := by simp [qws, List.map_set]
structure IRam where
 b : List (BitVec 8)
 w : List Bool
 g : List (BitVec 64)
structure Pl where
 p : Nat
 b : Nat
 w : Nat
 g : Nat
structure Pl.ok (l : Pl) : Prop where
 pb : l.p ≠ l.b
 pw : l.p ≠ l.w
 pg : l.p ≠ l.g
 bw : l.b ≠ l.w
 bg : l.b ≠ l.g
 wg : l.w ≠ l.g
def Pl.has (l : Pl) (c : Nat) : Prop := c = l.p ∨ c = l.b ∨ c = l.w ∨ c = l.g
def IRam.wf (M : IRam) : Prop := 64 ≤ M.b.length ∧ M.b.length ≤ 65536 ∧ M.b.length % 64 = 0 ∧ M.w.length = M.b.length / 64 ∧ M.g.length = M.b.length / 64
structure RamAt (H : Heap) (l : Pl) (M : IRam) : Prop where
 ok : l.ok
 wf : M.wf
 hp : H l.p = some ⟨[.sl l.b 0 M.b.length M.b.length, .sl l.w 0 M.w.length M.w.length, .sl l.g 0 M.g.length M.g.length], 0⟩
 hb : H l.b = some ⟨bys M.b, 0⟩
 hw : H l.w = some ⟨bos M.w, 0⟩
 hg : H l.g = some ⟨qws M.g, 0⟩
theorem RamAt.upd {H : Heap} {l : Pl} {M : IRam} (hr : RamAt H l M) {c : Nat} {X : Blk} (hc : ¬ l.has c) : RamAt (Ab.upd H c X) l M := by
 simp only [Pl.has, not_or] at hc
 exact ⟨hr.ok, hr.wf, by rw [upd_ne (Ne.symm hc.1)]; exact hr.hp, by rw [upd_ne (Ne.symm hc.2.1)]; exact hr.hb, by rw [upd_ne (Ne.symm hc.2.2.1)]; exact hr.hw, by rw [upd_ne (Ne.symm hc.2.2.2)]; exact hr.hg⟩
theorem RamAt.not {H : Heap} {l : Pl} {M : IRam} (hr : RamAt H l M) {c : Nat} (hc : H c = none) : ¬ l.has c := by
 rintro (rfl | rfl | rfl | rfl)
 ·rw [hr.hp] at hc; cases hc
 ·rw [hr.hb] at hc; cases hc
 ·rw [hr.hw] at hc; cases hc
 ·rw [hr.hg] at hc; cases hc
def hasN (len : Nat) (addr : BitVec 32) (n : Int) : Bool := decide (1 ≤ n) && decide (n ≤ len) && decide (2147483648 ≤ addr.toNat) && decide ((addr.toNat : Int) - 2147483648 ≤ len - n)
def askedN (len : Nat) (addr : BitVec 32) (n : Int) : Int := if ¬ (n = 1 ∨ n = 2 ∨ n = 4) then 2 else if (addr.toNat : Int) % n ≠ 0 then 5 else if hasN len addr n then 0 else 6
theorem sub_base (addr : BitVec 32) (ha : 2147483648 ≤ addr.toNat) : (addr - 2147483648#32).toNat = addr.toNat - 2147483648 := by
 have := addr.isLt
 rw [BitVec.toNat_sub]; simp; omega
section
variable {l : Pl} {M : IRam}
theorem Has_spec (hr : RamAt h l M) (addr : BitVec 32) (n : Int) (hn : n ≤ 9223372036854775807) (hn0 : -9223372036854775808 ≤ n) : Spec Tryd.prog G 33 [.ptr l.p 0, .int .u32 addr.toNat, .int .i64 n] h (Is (.bool (hasN M.b.length addr n)) h) := by
 have hp := hr.hp
 have hw := hr.wf
 unfold IRam.wf at hw
 have hN : hasN M.b.length addr n = (decide (1 ≤ n) && decide (n ≤ M.b.length) && decide (2147483648 ≤ addr.toNat) && decide ((addr.toNat : Int) - 2147483648 ≤ M.b.length - n)) := rfl
 generalize hasN M.b.length addr n = N at hN ⊢
 refine Spec.is C33ok rfl ?_
 simp only [push_cast, simprocAttr, hp]
 refine ⟨fun q => ?_, fun q => ?_⟩
 ·rw [hN]; (first | rfl | (congr 1; done) | (congr 1; rw [Bool.eq_iff_iff]; simp only [Bool.and_eq_true, Bool.or_eq_true, Bool.not_eq_true', decide_eq_true_eq, decide_eq_false_iff_not, Bool.false_eq_true, true_and, and_true]; first | omega | grind))
 ·rw [sub_base addr (by omega), wrap_i64 (by omega) (by omega), hN]; (first | rfl | (congr 1; done) | (congr 1; rw [Bool.eq_iff_iff]; simp only [Bool.and_eq_true, Bool.or_eq_true, Bool.not_eq_true', decide_eq_true_eq, decide_eq_false_iff_not, Bool.false_eq_true, true_and, and_true]; first | omega | grind))
theorem tmod_124 (a : BitVec 32) (n : Int) (hn : n = 1 ∨ n = 2 ∨ n = 4) : (a.toNat : Int).tmod ((BitVec.ofInt 32 n).toNat : Int) = (a.toNat : Int) % n ∧ (((BitVec.ofInt 32 n).toNat : Int) = 0) = False := by
 rcases hn with rfl | rfl | rfl
 ·exact ⟨by rw [show ((BitVec.ofInt 32 1).toNat : Int) = 1 from rfl, Int.tmod_eq_emod_of_nonneg (by omega)], by simp⟩
 ·exact ⟨by rw [show ((BitVec.ofInt 32 2).toNat : Int) = 2 from rfl, Int.tmod_eq_emod_of_nonneg (by omega)], by simp⟩
 ·exact ⟨by rw [show ((BitVec.ofInt 32 4).toNat : Int) = 4 from rfl, Int.tmod_eq_emod_of_nonneg (by omega)], by simp⟩
theorem asked_spec (hr : RamAt h l M) (addr : BitVec 32) (n : Int) : Spec Tryd.prog G 90 [.ptr l.p 0, .int .u32 addr.toNat, .int .i64 n] h (Is (.int .i64 (askedN M.b.length addr n)) h) := by
 by_cases hn : n = 1 ∨ n = 2 ∨ n = 4
 ·obtain ⟨t1, t2⟩ := tmod_124 addr n hn
  have hN : askedN M.b.length addr n = if (addr.toNat : Int) % n ≠ 0 then 5 else if hasN M.b.length addr n then 0 else 6 := by rw [askedN, if_neg (fun q => q hn)]
  have e0 : (((n != 1) && (n != 2)) && (n != 4)) = false := by rcases hn with rfl | rfl | rfl <;> rfl
  rw [hN]
  refine Spec.is C90ok rfl ?_
  simp only [push_cast, simprocAttr, t1, t2, e0]
  by_cases hm : (addr.toNat : Int) % n = 0
  ·simp only [push_cast, simprocAttr, t1, t2, e0, hm]
   refine (Has_spec hr addr n (by omega) (by omega)).to ?_
   cases hH : hasN M.b.length addr n
   ·simp only [push_cast, simprocAttr]
   ·simp only [push_cast, simprocAttr]
  ·simp only [push_cast, simprocAttr, t1, t2, e0, hm]
 ·have hN : askedN M.b.length addr n = 2 := by rw [askedN, if_pos hn]
  have e0 : (((n != 1) && (n != 2)) && (n != 4)) = true := by simp; omega
  rw [hN]
  refine Spec.is C90ok rfl ?_
  simp only [push_cast, simprocAttr, e0]
theorem at_spec (hr : RamAt h l M) (addr : BitVec 32) (n : Nat) (hh : hasN M.b.length addr n = true) : Spec Tryd.prog G 47 [.ptr l.p 0, .int .u32 addr.toNat, .int .i64 n] h (Is (.sl l.b (addr.toNat - 2147483648) n n) h) := by
 have hp := hr.hp
 have hw := hr.wf
 unfold IRam.wf at hw
 simp only [hasN, Bool.and_eq_true, decide_eq_true_eq] at hh
 have e1 := sub_base addr (by omega)
 obtain ⟨k, hk⟩ : ∃ k, addr.toNat - 2147483648 = k := ⟨_, rfl⟩
 rw [hk] at e1 ⊢
 refine Spec.is C47ok rfl ?_
 simp (disch := omega) only [push_cast, simprocAttr, wrap_i64, toNat_ofInt64, Nat.min_eq_left, Int.toNat_of_nonneg, hp, e1]
 refine ⟨⟨⟨by omega, by omega⟩, ⟨by omega, by omega⟩, by omega⟩, ?_⟩
 rw [show ((k : Int) + n).toNat - k = n by omega]
theorem Arg1.part {h : Heap} {b o n cap : Nat} {x : Blk} {cells : List AV} (hb : h b = some x) (hc : ∀ (i : Nat) v, cells[i]? = some v → x.cells[o + i]? = some v) (h0 : n = 0 → cells = []) : Arg1 h (.sl b o n cap) (.ro cells n) :=
 fun w v hw hr => row_rep hw hb hc h0 hr (fun h => h) (fun _ _ h => h)
def IRam.load (M : IRam) (addr : BitVec 32) (n : Nat) : BitVec 32 := BitVec.ofNat 32 (leN ((M.b.drop (addr.toNat - 2147483648)).take n))
theorem Load_spec (hr : RamAt h l M) (addr : BitVec 32) (n : Int) : Spec Tryd.prog G 70 [.ptr l.p 0, .int .u32 addr.toNat, .int .i64 n] h
  (Is (.tup [.int .u32 (if askedN M.b.length addr n = 0 then M.load addr n.toNat else 0#32).toNat, .int .i64 (askedN M.b.length addr n)]) h) := by
 refine Spec.is C70ok rfl ?_
 simp only [push_cast, simprocAttr]
 refine (asked_spec hr addr n).to ?_
 by_cases hz : askedN M.b.length addr n = 0
 ·have hz' : (askedN M.b.length addr n != 0) = false := by simp [hz]
  rw [if_pos hz]
  obtain ⟨N, rfl⟩ : ∃ N : Nat, n = N := ⟨n.toNat, by unfold askedN at hz; split at hz <;> omega⟩
  simp only [push_cast, simprocAttr, hz']
  refine (at_spec hr addr N (by unfold askedN at hz; split at hz; omega; split at hz; omega; split at hz; assumption; omega)).to ?_
  simp only [push_cast, simprocAttr, hz']
  have hH : hasN M.b.length addr N = true := by unfold askedN at hz; split at hz; omega; split at hz; omega; split at hz; assumption; omega
  have hn : N = 1 ∨ N = 2 ∨ N = 4 := by unfold askedN at hz; split at hz <;> omega
  simp only [hasN, Bool.and_eq_true, decide_eq_true_eq] at hH
  have hl : ((M.b.drop (addr.toNat - 2147483648)).take N).length = N := by rw [List.length_take, List.length_drop]; omega
  refine Spec.borrow (Number_spec ((M.b.drop (addr.toNat - 2147483648)).take N) (by rw [hl]; exact hn)) (.cons ?_ .nil) ?_
  ·rw [byt, hl]
   refine Arg1.part hr.hb (fun i v hv => ?_) (fun e => by omega)
   rw [← bys_take, ← bys_drop, List.getElem?_take] at hv
   split at hv
   ·rw [List.getElem?_drop] at hv; exact hv
   ·cases hv
  ·rintro _ _ ⟨rfl, rfl⟩
   refine ⟨rfl, ?_⟩
   simp only [push_cast, simprocAttr, hz]
   rfl
 ·have hz' : (askedN M.b.length addr n != 0) = true := by simp [hz]
  rw [if_neg hz]
  simp only [push_cast, simprocAttr, hz']
def IRam.page (M : IRam) (addr : BitVec 32) : Int := if hasN M.b.length addr 1 then (((addr.toNat - 2147483648) / 64 : Nat) : Int) else -1
theorem Page_spec (hr : RamAt h l M) (addr : BitVec 32) : Spec Tryd.prog G 17 [.ptr l.p 0, .int .u32 addr.toNat] h (Is (.int .i64 (M.page addr)) h) := by
 refine Spec.is C17ok rfl ?_
 simp only [push_cast, simprocAttr]
 refine (Has_spec hr addr 1 (by omega) (by omega)).to ?_
 unfold IRam.page
 cases hH : hasN M.b.length addr 1 with
 | false => simp only [push_cast, simprocAttr]
 | true =>
  simp only [hasN, Bool.and_eq_true, decide_eq_true_eq] at hH
  have e1 := sub_base addr (by omega)
  have := addr.isLt
  simp only [push_cast, simprocAttr, e1]
  rw [wrap_i64 (x := ((addr.toNat - 2147483648 : Nat) : Int)) (by omega) (by omega), Int.tdiv_eq_ediv_of_nonneg (by omega), wrap_i64 (by omega) (by omega)]
theorem bys_splice (b c : List (BitVec 8)) (k : Nat) (hk : k + c.length ≤ b.length) : splice (bys b) k (bys c) = bys (b.take k ++ c ++ b.drop (k + c.length)) := by
 apply List.ext_getElem?
 intro i
 rw [splice_get (by simpa [bys] using hk)]
 simp only [bys, List.getElem?_map, List.length_map, List.map_append]
 split
 ·rename_i hi
  rw [List.getElem?_append_left (by simp; omega), List.getElem?_append_right (by simp; omega), List.getElem?_map]
  simp [Nat.min_eq_left (show k ≤ b.length by omega)]
 ·rename_i hi
  by_cases hlt : i < k
  ·rw [List.getElem?_append_left (by simp; omega), List.getElem?_append_left (by simp; omega), List.getElem?_map, List.getElem?_take, if_pos hlt]
  ·rw [List.getElem?_append_right (by simp; omega), List.getElem?_map, List.getElem?_drop]
   simp only [List.length_append, List.length_map, List.length_take]
   rw [show k + c.length + (i - (min k b.length + c.length)) = i by omega]
def RamTo (l : Pl) (M : IRam) (v : AV) (h : Heap) (r : AV) (h' : Heap) : Prop := r = v ∧ RamAt h' l M ∧ ∀ c, ¬ l.has c → h' c = h c
def IRam.put (M : IRam) (k : Nat) (c : List (BitVec 8)) : IRam := { M with b := M.b.take k ++ c ++ M.b.drop (k + c.length) }
theorem put_len (M : IRam) (k : Nat) (c : List (BitVec 8)) (hk : k + c.length ≤ M.b.length) : (M.put k c).b.length = M.b.length := by simp [IRam.put]; omega
theorem RamAt.put {H : Heap} (hr : RamAt H l M) (k : Nat) (c : List (BitVec 8)) (hk : k + c.length ≤ M.b.length) : RamAt (Ab.upd H l.b ⟨bys (M.put k c).b, 0⟩) l (M.put k c) := by
 have hl := put_len M k c hk
 have ho := hr.ok
 refine ⟨ho, ?_, ?_, upd_same _ _ _, ?_, ?_⟩
 ·have := hr.wf; unfold IRam.wf at this ⊢; rw [hl]; exact this
 ·rw [upd_ne ho.pb, hl]; exact hr.hp
 ·rw [upd_ne (Ne.symm ho.bw)]; exact hr.hw
 ·rw [upd_ne (Ne.symm ho.bg)]; exact hr.hg
def fillE (len : Nat) (addr : BitVec 32) (n : Nat) : Int := if n = 0 then 0 else if hasN len addr n then 0 else 6
def IRam.fill (M : IRam) (addr : BitVec 32) (c : List (BitVec 8)) : IRam := if c.length ≠ 0 ∧ hasN M.b.length addr c.length = true then M.put (addr.toNat - 2147483648) c else M
theorem Fill_spec (hr : RamAt h l M) (addr : BitVec 32) (c : List (BitVec 8)) (hc : c.length ≤ 140737488355328) : Spec Tryd.prog G 24 [.ptr l.p 0, .int .u32 addr.toNat, byt c] h
  (RamTo l (M.fill addr c) (.int .i64 (fillE M.b.length addr c.length)) h) := by
 have hA : fillE M.b.length addr c.length = if c.length = 0 then 0 else if hasN M.b.length addr c.length then 0 else 6 := rfl
 have hF : M.fill addr c = if c.length ≠ 0 ∧ hasN M.b.length addr c.length = true then M.put (addr.toNat - 2147483648) c else M := rfl
 by_cases h0 : c.length = 0
 ·have h0' : (c.length : Int) = 0 := by omega
  rw [if_pos h0] at hA
  rw [if_neg (fun q => q.1 h0)] at hF
  rw [hA, hF]
  refine Spec.walk C24ok rfl ?_
  simp only [push_cast, simprocAttr, h0']
  exact ⟨rfl, hr, fun _ _ => rfl⟩
 ·have h0' : ((c.length : Int) = 0) = False := by simp only [eq_iff_iff, iff_false]; omega
  rw [if_neg h0] at hA
  have hS := Has_spec (G := G) hr addr c.length (by omega) (by omega)
  cases hH : hasN M.b.length addr c.length with
  | false =>
   rw [hH] at hA hF hS
   rw [if_neg (by simp)] at hA
   rw [if_neg (fun q => by cases q.2)] at hF
   rw [hA, hF]
   refine Spec.walk C24ok rfl ?_
   simp only [push_cast, simprocAttr, h0']
   refine hS.to ?_
   simp only [push_cast, simprocAttr]
   exact ⟨rfl, hr, fun _ _ => rfl⟩
  | true =>
   rw [hH] at hA hF hS
   rw [if_pos rfl] at hA
   rw [if_pos ⟨h0, rfl⟩] at hF
   rw [hA, hF]
   refine Spec.walk C24ok rfl ?_
   simp only [push_cast, simprocAttr, h0']
   refine hS.to ?_
   simp only [push_cast, simprocAttr]
   refine (at_spec hr addr c.length hH).to ?_
   simp only [hasN, Bool.and_eq_true, decide_eq_true_eq] at hH
   have hb := hr.hb
   simp only [push_cast, simprocAttr, hb]
   refine ⟨by omega, ?_⟩
   rw [List.take_of_length_le (by simp [bys]), bys_splice _ _ _ (by omega)]
   have := hr.put (addr.toNat - 2147483648) c (by omega)
   refine ⟨rfl, this, fun d hd => ?_⟩
   rw [upd_ne (fun e => hd (.inr (.inl e)))]
def IRam.store (M : IRam) (addr : BitVec 32) (n : Nat) (w : BitVec 32) : IRam × Bool :=
 let k := addr.toNat - 2147483648
 let N := M.put k (leB w n)
 if M.w.getD (k / 64) false then ({ N with w := N.w.set (k / 64) false, g := N.g.set (k / 64) (N.g.getD (k / 64) 0#64 + 1#64) }, true) else (N, false)
end
end Go.Ab
end
section
namespace Go.Ab
open Go.Proofs
variable {G : Glo} {h : Heap}
section
variable {l : Pl} {M : IRam}
def rightN (n : Int) : Bool := decide (64 ≤ n) && decide (n ≤ 65536) && decide (n % 64 = 0)
def IRam.new (n : Nat) : IRam := ⟨List.replicate n 0, List.replicate (n / 64) false, List.replicate (n / 64) 0⟩
def RamNew (h : Heap) (n : Nat) (r : AV) (h' : Heap) : Prop := ∃ l : Pl, r = .tup [.ptr l.p 0, .int .i64 0] ∧ RamAt h' l (IRam.new n) ∧ (∀ c, l.has c → h c = none) ∧ ∀ c, ¬ l.has c → h' c = h c
theorem new_cells (n : Nat) : bys (List.replicate n 0) = List.replicate n (AV.int .u8 0) ∧ bos (List.replicate n false) = List.replicate n (AV.bool false) ∧ qws (List.replicate n 0) = List.replicate n (AV.int .u64 0) := by
 simp [bys, bos, qws]
theorem New_spec (n : Nat) (hn : rightN n = true) : Spec Tryd.prog G 23 [.int .i64 n] h (RamNew h n) := by
  simp only [rightN, Bool.and_eq_true, decide_eq_true_eq] at hn
  have hc : ((decide ((n : Int) < 64) || decide ((n : Int) > 65536)) || ((n : Int).tmod 64 != 0)) = false := by
    simp only [Bool.or_eq_false_iff, decide_eq_false_iff_not, bne_eq_false_iff_eq]
    rw [Int.tmod_eq_emod_of_nonneg (by omega)]
    omega
  have hq : (n : Int).tdiv 64 = ((n / 64 : Nat) : Int) := by simp
  obtain ⟨p, hp⟩ : ∃ p, n / 64 = p := ⟨_, rfl⟩
  rw [hp] at hq
  obtain ⟨c1, c2, c3⟩ := new_cells n
  obtain ⟨d1, d2, d3⟩ := new_cells p
  have fin : ∀ (b1 b2 b3 b4 : Nat) (H : Heap), (h b1 = none ∧ h b2 = none ∧ h b3 = none ∧ h b4 = none) → (b1 ≠ b2 ∧ b1 ≠ b3 ∧ b2 ≠ b3 ∧ b4 ≠ b1 ∧ b4 ≠ b2 ∧ b4 ≠ b3) →
      H b1 = some ⟨List.replicate n (.int .u8 0), 0⟩ → H b2 = some ⟨List.replicate p (.bool false), 0⟩ → H b3 = some ⟨List.replicate p (.int .u64 0), 0⟩ → H b4 = some ⟨[.sl b1 0 n n, .sl b2 0 p p, .sl b3 0 p p], 0⟩ →
      (∀ c, c ≠ b1 → c ≠ b2 → c ≠ b3 → c ≠ b4 → H c = h c) → RamNew h n (.tup [.ptr b4 0, .int .i64 0]) H := by
    intro b1 b2 b3 b4 H ⟨f1, f2, f3, f4⟩ ⟨n12, n13, n23, n41, n42, n43⟩ h1 h2 h3 h4 ho
    refine ⟨⟨b4, b1, b2, b3⟩, rfl, ⟨⟨n41, n42, n43, n12, n13, n23⟩, ?_, ?_, ?_, ?_, ?_⟩, ?_, ?_⟩
    · unfold IRam.wf IRam.new; simp; omega
    · rw [h4]; simp [IRam.new, hp]
    · rw [h1, ← c1]; rfl
    · rw [h2, ← d2, ← hp]; rfl
    · rw [h3, ← d3, ← hp]; rfl
    · rintro c (rfl | rfl | rfl | rfl) <;> assumption
    · intro c hc
      simp only [Pl.has, not_or] at hc
      exact ho c hc.2.1 hc.2.2.1 hc.2.2.2 hc.1
  refine Spec.walk C23ok rfl ?_
  have z1 : ((n : Int) - (n : Int)).toNat = 0 := by omega
  have z2 : ((p : Int) - (p : Int)).toNat = 0 := by omega
  have z3 : ∀ (x y z u : Nat), x ≠ y → x ≠ z → y ≠ z → u ≠ x → u ≠ y → u ≠ z → ∀ A B C D : Blk, upd (upd (upd (upd h x A) y B) z C) u D x = some A ∧ upd (upd (upd (upd h x A) y B) z C) u D y = some B ∧ upd (upd (upd (upd h x A) y B) z C) u D z = some C ∧
      upd (upd (upd (upd h x A) y B) z C) u D u = some D ∧ ∀ c, c ≠ x → c ≠ y → c ≠ z → c ≠ u → upd (upd (upd (upd h x A) y B) z C) u D c = h c := by
    intro x y z u q1 q2 q3 q4 q5 q6 A B C D
    refine ⟨?_, ?_, ?_, upd_same _ _ _, fun c k1 k2 k3 k4 => ?_⟩
    · rw [upd_ne (Ne.symm q4), upd_ne q2, upd_ne q1, upd_same]
    · rw [upd_ne (Ne.symm q5), upd_ne q3, upd_same]
    · rw [upd_ne (Ne.symm q6), upd_same]
    · rw [upd_ne k4, upd_ne k3, upd_ne k2, upd_ne k1]
  simp (disch := omega) only [push_cast, simprocAttr, wrap_i64, toNat_ofInt64, Nat.min_eq_left, Int.toNat_of_nonneg, hc, hq, z1, z2]
  (repeat' (first | apply And.intro | intro _)) <;> first
    | omega
    | (rename_i b0 e0 b1 e1 b2 e2 b3 e3
       obtain ⟨n10, f1⟩ := upd_none e1
       obtain ⟨n21, e2'⟩ := upd_none e2
       obtain ⟨n20, f2⟩ := upd_none e2'
       obtain ⟨n32, e3'⟩ := upd_none e3
       obtain ⟨n31, e3''⟩ := upd_none e3'
       obtain ⟨n30, f3⟩ := upd_none e3''
       have key := z3 b0 b1 b2 b3 (Ne.symm n10) (Ne.symm n20) (Ne.symm n21) n30 n31 n32
       clear z3
       first
         | exact fin b0 b1 b2 b3 _ ⟨e0, f1, f2, f3⟩ ⟨Ne.symm n10, Ne.symm n20, Ne.symm n21, n30, n31, n32⟩ (key _ _ _ _).1 (key _ _ _ _).2.1 (key _ _ _ _).2.2.1 (key _ _ _ _).2.2.2.1 (fun c q1 q2 q3 q4 => (key _ _ _ _).2.2.2.2 c q1 q2 q3 q4)
         | exact fin b0 b2 b1 b3 _ ⟨e0, f2, f1, f3⟩ ⟨Ne.symm n20, Ne.symm n10, n21, n30, n32, n31⟩ (key _ _ _ _).1 (key _ _ _ _).2.2.1 (key _ _ _ _).2.1 (key _ _ _ _).2.2.2.1 (fun c q1 q2 q3 q4 => (key _ _ _ _).2.2.2.2 c q1 q3 q2 q4)
         | exact fin b1 b0 b2 b3 _ ⟨f1, e0, f2, f3⟩ ⟨n10, Ne.symm n21, Ne.symm n20, n31, n30, n32⟩ (key _ _ _ _).2.1 (key _ _ _ _).1 (key _ _ _ _).2.2.1 (key _ _ _ _).2.2.2.1 (fun c q1 q2 q3 q4 => (key _ _ _ _).2.2.2.2 c q2 q1 q3 q4)
         | exact fin b2 b0 b1 b3 _ ⟨f2, e0, f1, f3⟩ ⟨n20, n21, Ne.symm n10, n32, n30, n31⟩ (key _ _ _ _).2.2.1 (key _ _ _ _).1 (key _ _ _ _).2.1 (key _ _ _ _).2.2.2.1 (fun c q1 q2 q3 q4 => (key _ _ _ _).2.2.2.2 c q2 q3 q1 q4)
         | exact fin b1 b2 b0 b3 _ ⟨f1, f2, e0, f3⟩ ⟨Ne.symm n21, n10, n20, n31, n32, n30⟩ (key _ _ _ _).2.1 (key _ _ _ _).2.2.1 (key _ _ _ _).1 (key _ _ _ _).2.2.2.1 (fun c q1 q2 q3 q4 => (key _ _ _ _).2.2.2.2 c q3 q1 q2 q4)
         | exact fin b2 b1 b0 b3 _ ⟨f2, f1, e0, f3⟩ ⟨n21, n20, n10, n32, n31, n30⟩ (key _ _ _ _).2.2.1 (key _ _ _ _).2.1 (key _ _ _ _).1 (key _ _ _ _).2.2.2.1 (fun c q1 q2 q3 q4 => (key _ _ _ _).2.2.2.2 c q3 q2 q1 q4))
end
end Go.Ab
end
section
namespace Go.Ab
open Go.Proofs
variable {G : Glo} {h : Heap}
end Go.Ab
end
section
namespace Go.Ab
open Go.Proofs
variable {G : Glo} {h : Heap}
structure IIt where
 pc : BitVec 32
 i : IIn
 next : BitVec 32
def IIt.cells (x : IIt) : List AV := .int .u32 (x.pc.toNat : Int) :: (x.i.cells ++ [.int .u32 (x.next.toNat : Int)])
def nextN (w pc : BitVec 32) : BitVec 32 := if kindK w = 3 then pc + (decI w).imm else if kindK w = 4 then 0#32 else pc + 4#32
def itemN (w pc : BitVec 32) : IIt := ⟨pc, decI w, nextN w pc⟩
section
variable {l : Pl} {M : IRam}
def wordN (M : IRam) (pc : BitVec 32) : BitVec 32 := if askedN M.b.length pc 4 = 0 then M.load pc 4 else 0#32
theorem at2_spec (hG : GF G) (hr : RamAt h l M) (pc : BitVec 32) : Spec Tryd.prog G 49 [.ptr l.p 0, .int .u32 pc.toNat] h
  (Is (.tup [.agg (itemN (wordN M pc) pc).cells, .bool (decide (askedN M.b.length pc 4 = 0) && canN (wordN M pc) (kindK (wordN M pc)))]) h) := by
 have hL := fun (H : Heap) (hr : RamAt H l M) => Load_spec (G := G) hr pc 4
 rw [show (4 : Int).toNat = 4 from rfl] at hL
 have hw : (if askedN M.b.length pc 4 = 0 then M.load pc 4 else 0#32) = wordN M pc := rfl
 rw [hw] at hL
 generalize wordN M pc = w at *
 generalize askedN M.b.length pc 4 = e at *
 have hD := fun H : Heap => Decode_spec (G := G) (h := H) hG w (kindK_lt w)
 have hC := fun H : Heap => Can_spec (G := G) (h := H) hG w (kindK w) (kindK_lt w)
 rw [← dec_laid] at hC
 have eo : (decI w).op = kindK w := by rw [dec_laid]; rfl
 have hN : nextN w pc = if kindK w = 3 then pc + (decI w).imm else if kindK w = 4 then 0#32 else pc + 4#32 := rfl
 have hI : (itemN w pc).cells = .int .u32 (pc.toNat : Int) :: ((decI w).cells ++ [.int .u32 ((nextN w pc).toNat : Int)]) := rfl
 rw [hI, hN]
 clear hI hN
 generalize canN w (kindK w) = C at *
 generalize kindK w = K at *
 generalize decI w = I at *
 obtain ⟨op, rd, rs1, rs2, imm, csr⟩ := I
 simp only at eo
 subst eo
 have p8 : ∀ a b c d e f g i : AV, partOf [a, b, c, d, e, f, g, i] 0 (some 8) = some (.agg [a, b, c, d, e, f, g, i]) := fun _ _ _ _ _ _ _ _ => rfl
 have p6 : ∀ a b c d e f g i : AV, partOf [a, b, c, d, e, f, g, i] 1 (some 6) = some (.agg [b, c, d, e, f, g]) := fun _ _ _ _ _ _ _ _ => rfl
 refine Spec.is C49ok rfl ?_
 simp only [push_cast, simprocAttr, IIn.cells]
 intro c4 hc4
 refine (hL _ (hr.upd (hr.not hc4))).to ?_
 simp only [push_cast, simprocAttr, IIn.cells]
 refine (hD _).to ?_
 simp only [push_cast, simprocAttr, IIn.cells]
 intro c8 hc8
 obtain ⟨n8, hc8h⟩ := upd_none hc8
 have u8 : ∀ (H : Heap) X, upd H c8 X c4 = H c4 := fun H X => upd_ne (Ne.symm n8)
 have hs : ∀ X Y Z, Sub h (upd (upd (upd h c4 X) c8 Y) c4 Z) := fun X Y Z => (((Sub.refl h).set hc4).set hc8h).set hc4
 clear hc8
 by_cases k3 : K = 3
 ·have z3 : ((K : Int) = 3) = True := by simp only [eq_iff_iff, iff_true]; omega
  rw [if_pos k3]
  by_cases he : e = 0
  ·have ze : (e == 0) = true := by rw [he]; rfl
   have hd : decide (e = 0) = true := decide_eq_true he
   rw [hd]
   simp only [push_cast, simprocAttr, z3, ze, u8, p8, p6]
   refine (hC _).to ?_
   simp only [push_cast, simprocAttr, z3, ze, u8, p8, p6]
   first | exact hs _ _ _ | exact ⟨rfl, hs _ _ _⟩
  ·have ze : (e == 0) = false := by rw [beq_eq_false_iff_ne]; exact he
   have hd : decide (e = 0) = false := decide_eq_false he
   rw [hd]
   simp only [push_cast, simprocAttr, z3, ze, u8, p8, p6]
   first | exact hs _ _ _ | exact ⟨rfl, hs _ _ _⟩
 ·have z3 : ((K : Int) = 3) = False := by simp only [eq_iff_iff, iff_false]; omega
  rw [if_neg k3]
  by_cases k4 : K = 4
  ·have z4 : ((K : Int) = 4) = True := by simp only [eq_iff_iff, iff_true]; omega
   rw [if_pos k4]
   by_cases he : e = 0
   ·have ze : (e == 0) = true := by rw [he]; rfl
    have hd : decide (e = 0) = true := decide_eq_true he
    rw [hd]
    simp only [push_cast, simprocAttr, z3, z4, ze, u8, p8, p6]
    refine (hC _).to ?_
    simp only [push_cast, simprocAttr, z3, z4, ze, u8, p8, p6]
    first | exact hs _ _ _ | exact ⟨rfl, hs _ _ _⟩
   ·have ze : (e == 0) = false := by rw [beq_eq_false_iff_ne]; exact he
    have hd : decide (e = 0) = false := decide_eq_false he
    rw [hd]
    simp only [push_cast, simprocAttr, z3, z4, ze, u8, p8, p6]
    first | exact hs _ _ _ | exact ⟨rfl, hs _ _ _⟩
  ·have z4 : ((K : Int) = 4) = False := by simp only [eq_iff_iff, iff_false]; omega
   rw [if_neg k4]
   by_cases he : e = 0
   ·have ze : (e == 0) = true := by rw [he]; rfl
    have hd : decide (e = 0) = true := decide_eq_true he
    rw [hd]
    simp only [push_cast, simprocAttr, z3, z4, ze, u8, p8, p6]
    refine (hC _).to ?_
    simp only [push_cast, simprocAttr, z3, z4, ze, u8, p8, p6]
    first | exact hs _ _ _ | exact ⟨rfl, hs _ _ _⟩
   ·have ze : (e == 0) = false := by rw [beq_eq_false_iff_ne]; exact he
    have hd : decide (e = 0) = false := decide_eq_false he
    rw [hd]
    simp only [push_cast, simprocAttr, z3, z4, ze, u8, p8, p6]
    first | exact hs _ _ _ | exact ⟨rfl, hs _ _ _⟩
end
end Go.Ab
end
section
namespace Go.Ab
open Go.Proofs
variable {G : Glo} {h : Heap}
theorem it_at (x : IIt) : x.cells.length = 8 ∧ x.cells[0]? = some (.int .u32 (x.pc.toNat : Int)) ∧ x.cells[1]? = some (.int .i64 x.i.op) ∧ x.cells[5]? = some (.int .u32 (x.i.imm.toNat : Int)) ∧ x.cells[7]? = some (.int .u32 (x.next.toNat : Int)) ∧ ∀ y : BitVec 32, x.cells.set 7 (.int .u32 (y.toNat : Int)) = { x with next := y }.cells :=
 ⟨rfl, rfl, rfl, rfl, rfl, fun _ => rfl⟩
theorem rowOn_spec {H : Heap} {c : Nat} {x : IIt} {n : Nat} (hc : H c = some ⟨x.cells, 0⟩) (hn : x.i.op = n) (h58 : n < 58) : Spec Tryd.prog G 48 [.ptr c 0] H (Is (.bool (!endsN n)) H) := by
 obtain ⟨l8, g0, g1, g5, g7, _⟩ := it_at x
 rw [hn] at g1
 have he := Ends_spec (G := G) (h := H) n h58
 refine Spec.is C48ok rfl ?_
 simp only [push_cast, simprocAttr, hc, g1, l8]
 refine he.to ?_
 simp only [push_cast, simprocAttr]
end Go.Ab
end
section
namespace Go.Ab
open Go.Proofs
variable {G : Glo} {h : Heap}
def pathOn (x : IIt) (n : Nat) : List Bool → Bool × IIt × List Bool
 | T => if brN n = false then (decide (n ≠ 4), x, T) else match T with
  | [] => (false, x, [])
  | t :: r => if t && decide (x.i.imm.toNat % 4 ≠ 0) then (false, x, r) else if t then (true, { x with next := x.pc + x.i.imm }, r) else (true, x, r)
def turnsC (T : List Bool) : List AV := [.ro (bos T) T.length]
def PathTo (H : Heap) (c ct : Nat) (p : Bool × IIt × List Bool) (r : AV) (H' : Heap) : Prop := r = .bool p.1 ∧ H' c = some ⟨p.2.1.cells, 0⟩ ∧ H' ct = some ⟨turnsC p.2.2, 0⟩ ∧ ∀ d, d ≠ c → d ≠ ct → H' d = H d
theorem pathOn_spec {H : Heap} {c ct : Nat} {x : IIt} {n : Nat} {T : List Bool} (hne : c ≠ ct) (hc : H c = some ⟨x.cells, 0⟩) (ht : H ct = some ⟨turnsC T, 0⟩) (hn : x.i.op = n) (h58 : n < 58) : Spec Tryd.prog G 27 [.ptr c 0, .ptr ct 0] H (PathTo H c ct (pathOn x n T)) := by
 obtain ⟨l8, g0, g1, g5, g7, g8⟩ := it_at x
 rw [hn] at g1
 have hb := fun H : Heap => branch_spec (G := G) (h := H) n
 have ht' : H ct = some ⟨[.ro (bos T) T.length], 0⟩ := ht
 cases hB : brN n with
 | false =>
  have hP : pathOn x n T = (decide (n ≠ 4), x, T) := by unfold pathOn; rw [if_pos hB]
  rw [hP]
  rw [hB] at hb
  refine Spec.walk C27ok rfl ?_
  simp only [push_cast, simprocAttr, hc, g1, l8, ht']
  refine (hb _).to ?_
  simp only [push_cast, simprocAttr, hc, g1, l8, ht']
  refine ⟨?_, hc, ht, fun _ _ _ => rfl⟩
  congr 1
  rw [Bool.eq_iff_iff]; simp; omega
 | true =>
  rw [hB] at hb
  cases T with
  | nil =>
   have hP : pathOn x n [] = (false, x, []) := by unfold pathOn; rw [if_neg (by rw [hB]; simp)]
   rw [hP]
   refine Spec.walk C27ok rfl ?_
   simp only [push_cast, simprocAttr, hc, g1, l8, ht']
   refine (hb _).to ?_
   simp only [push_cast, simprocAttr, hc, g1, l8, ht']
   exact ⟨rfl, hc, ht, fun _ _ _ => rfl⟩
  | cons t r =>
   have hP : pathOn x n (t :: r) = if t && decide (x.i.imm.toNat % 4 ≠ 0) then (false, x, r) else if t then (true, { x with next := x.pc + x.i.imm }, r) else (true, x, r) := by unfold pathOn; rw [if_neg (by rw [hB]; simp)]
   rw [hP]
   have b0 : (bos (t :: r))[0]? = some (.bool t) := rfl
   have b1 : (bos (t :: r)).drop 1 = bos r := rfl
   refine Spec.walk C27ok rfl ?_
   simp only [push_cast, simprocAttr, hc, g1, l8, ht']
   refine (hb _).to ?_
   have u1 : ∀ X, upd H ct X c = some ⟨x.cells, 0⟩ := fun X => by rw [upd_ne hne, hc]
   have tk : List.take r.length (bos r) = bos r := List.take_of_length_le (by simp [bos])
   have i5 : (x.i.imm.toNat : Int).tmod 4 = ((x.i.imm.toNat % 4 : Nat) : Int) := by rw [Int.tmod_eq_emod_of_nonneg (by omega)]; omega
   have fin0 : PathTo H c ct (false, x, r) (.bool false) (upd H ct ⟨turnsC r, 0⟩) := ⟨rfl, u1 _, upd_same _ _ _, fun d _ hd => upd_ne hd⟩
   have fin1 : PathTo H c ct (true, x, r) (.bool true) (upd H ct ⟨turnsC r, 0⟩) := ⟨rfl, u1 _, upd_same _ _ _, fun d _ hd => upd_ne hd⟩
   have fin2 : PathTo H c ct (true, { x with next := x.pc + x.i.imm }, r) (.bool true) (upd (upd H ct ⟨turnsC r, 0⟩) c ⟨{ x with next := x.pc + x.i.imm : IIt }.cells, 0⟩) :=
    ⟨rfl, upd_same _ _ _, by rw [upd_ne (Ne.symm hne), upd_same], fun d h1 h2 => by rw [upd_ne h1, upd_ne h2]⟩
   cases t with
   | false =>
    simp (disch := omega) only [push_cast, simprocAttr, wrap_i64, toNat_ofInt64, Nat.min_eq_left, Int.toNat_of_nonneg, hc, g1, l8, ht', b0, b1, u1, tk]
    exact ⟨fun q => by omega, fun _ => ⟨by omega, by omega, fin1⟩⟩
   | true =>
    by_cases hm : x.i.imm.toNat % 4 = 0
    ·simp (disch := omega) only [push_cast, simprocAttr, wrap_i64, toNat_ofInt64, Nat.min_eq_left, Int.toNat_of_nonneg, hc, g0, g1, g5, l8, ht', b0, b1, u1, tk, i5, hm]
     rw [g8]
     exact ⟨fun q => by omega, fun _ => ⟨by omega, by omega, fin2⟩⟩
    ·simp (disch := omega) only [push_cast, simprocAttr, wrap_i64, toNat_ofInt64, Nat.min_eq_left, Int.toNat_of_nonneg, hc, g0, g1, g5, l8, ht', b0, b1, u1, tk, i5, hm]
     exact ⟨fun q => by omega, fun _ => ⟨by omega, by omega, fun _ => fin0, fun q => by omega⟩⟩
end Go.Ab
end
section
namespace Go.Ab
open Go.Proofs
variable {G : Glo} {h : Heap}
def okAt (M : IRam) (pc : BitVec 32) : Bool := decide (askedN M.b.length pc 4 = 0) && canN (wordN M pc) (kindK (wordN M pc))
def walkN (f : IIt → Nat → List Bool → Bool × IIt × List Bool) (M : IRam) : Nat → BitVec 32 → List Bool → List IIt
 | 0, _, _ => []
 | k + 1, pc, T =>
  if okAt M pc then
   let s := f (itemN (wordN M pc) pc) (kindK (wordN M pc)) T
   s.2.1 :: (if s.1 then walkN f M k s.2.1.next s.2.2 else [])
  else []
def rowOn (x : IIt) (n : Nat) (T : List Bool) : Bool × IIt × List Bool := (!endsN n, x, T)
def OnOk (P : Program) (G : Glo) (fn : Nat) (caps : List AV) (own : Nat → Prop) (St : Heap → List Bool → Prop) (f : IIt → Nat → List Bool → Bool × IIt × List Bool) : Prop :=
 callable P fn ∧ (∀ H H' T, St H T → (∀ d, own d → H' d = H d) → St H' T) ∧ (∀ H T, St H T → ∀ d, own d → H d ≠ none) ∧ ∀ (H : Heap) (c : Nat) (x : IIt) (n : Nat) (T : List Bool), St H T → ¬ own c → H c = some ⟨x.cells, 0⟩ → x.i.op = n → n < 58 →
  Spec P G fn (.ptr c 0 :: caps) H (fun r H' => r = .bool (f x n T).1 ∧ H' c = some ⟨(f x n T).2.1.cells, 0⟩ ∧ St H' (f x n T).2.2 ∧ ∀ d, d ≠ c → ¬ own d → H' d = H d)
theorem rowOn_ok : OnOk Tryd.prog G 48 [] (fun _ => False) (fun _ _ => True) rowOn :=
 ⟨⟨_, C48ok.hf, rfl, rfl⟩, fun _ _ _ _ _ => trivial, fun _ _ _ _ h => h.elim, fun H c x n T _ _ hc hn h58 => (rowOn_spec hc hn h58).mono fun r H' ⟨e1, e2⟩ => by subst e2; exact ⟨e1, hc, trivial, fun _ _ _ => rfl⟩⟩
theorem pathOn_ok (ct : Nat) : OnOk Tryd.prog G 27 [.ptr ct 0] (fun d => d = ct) (fun H T => H ct = some ⟨turnsC T, 0⟩) pathOn :=
 ⟨⟨_, C27ok.hf, rfl, rfl⟩, fun H H' T hs hd => (hd ct rfl).trans hs, fun H T hs d e => by rw [e, hs]; simp, fun H c x n T hs hno hc hn h58 => (pathOn_spec hno hc hs hn h58).mono fun r H' ⟨e1, e2, e3, e4⟩ => ⟨e1, e2, e3, e4⟩⟩
end Go.Ab
end
section
namespace Go.Ab
open Go.Proofs
variable {G : Glo} {h : Heap}
def its (l : List IIt) : List AV := l.flatMap IIt.cells
theorem its_len (l : List IIt) : (its l).length = l.length * 8 := by
 induction l with
 | nil => rfl
 | cons x r ih => simp only [its, List.flatMap_cons, List.length_append, List.length_cons] at ih ⊢; rw [ih, (it_at x).1]; omega
def del2 (h : Heap) (b : Nat) : Heap := fun c => if c = b then none else h c
theorem Own.to {sz n : Nat} {g H H2 : Heap} {v : AV} {cells : List AV} (ho : Own sz g v cells n H) (hs : ∀ b, g b = none → H b ≠ none → H2 b = H b) (hk : ∀ d, g d ≠ none → H2 d ≠ none) : ∃ g2, Own sz g2 v cells n H2 ∧ (∀ d, g d ≠ none → g2 d = H2 d) ∧ ∀ d, g2 d = none ∨ g2 d = H2 d := by
 cases ho with
 | nil => exact ⟨H2, .nil, fun _ _ => rfl, fun _ => .inr rfl⟩
 | row b n cap pre cells sp hb hl hc =>
  have h1 := hs b hb (by rw [upd_same]; simp)
  rw [upd_same] at h1
  refine ⟨del2 H2 b, ?_, fun d hd => ?_, fun d => ?_⟩
  ·have e : H2 = Ab.upd (del2 H2 b) b ⟨pre ++ cells, sp⟩ := by
    funext c
    simp only [upd_at, del2]
    split
    ·rename_i e; rw [e, h1]
    ·rfl
   have := Own.row (sz := sz) (g := del2 H2 b) b n cap pre cells sp (by simp [del2]) hl hc
   rw [← e] at this
   exact this
  ·have : d ≠ b := fun e => hd (e ▸ hb)
   simp [del2, this]
  ·by_cases e : d = b
   ·left; simp [del2, e]
   ·right; simp [del2, e]
section
variable {l : Pl} {M : IRam}
theorem along_spec (hG : GF G) {fn : Nat} {caps : List AV} {own : Nat → Prop} {St : Heap → List Bool → Prop} {f : IIt → Nat → List Bool → Bool × IIt × List Bool} (hOn : OnOk Tryd.prog G fn caps own St f)
  (hr : RamAt h l M) (hdis : ∀ d, own d → ¬ l.has d) (hfull : ∀ d, own d → h d ≠ none) (T : List Bool) (hs : St h T) (pc : BitVec 32) (most : Int) :
  Spec Tryd.prog G 26 [.ptr l.p 0, .int .u32 pc.toNat, .int .i64 most, .fn fn [] caps] h
   (fun r H' => ∃ g n, n = (walkN f M (min most 32).toNat pc T).length ∧ Own 8 g r (its (walkN f M (min most 32).toNat pc T)) n H' ∧ ∀ d, h d ≠ none → ¬ own d → g d = h d) := by
 obtain ⟨hcl, hst, hst0, hon⟩ := hOn
 obtain ⟨F, hF⟩ : ∃ F, (min most 32).toNat = F := ⟨_, rfl⟩
 rw [hF]
 refine Spec.walk C26ok rfl ?_
 simp only [push_cast, simprocAttr]
 refine lpc.rel [0, 1, 2, 3, 9] (fun m ρ H' => ∃ (out : List IIt) (v : AV) (g : Heap) (pc' : BitVec 32) (T' : List Bool), m = F - out.length ∧ out.length ≤ F ∧ Own 8 g v (its out) out.length H' ∧ RamAt g l M ∧ St g T' ∧ (∀ d, h d ≠ none → ¬ own d → g d = h d) ∧ (∀ d, own d → g d ≠ none) ∧
  walkN f M F pc T = out ++ walkN f M (F - out.length) pc' T' ∧
  ρ = [(0, .ptr l.p 0), (1, .int .u32 pc'.toNat), (2, .int .i64 most), (3, .fn fn [] caps), (9, v)]) ⟨_, [], .nils, h, pc, T, rfl, by simp, .nil, hr, hs, fun _ _ _ => rfl, hfull, rfl, rfl⟩ ?_
 rintro m _ H' ⟨out, v, g, pc', T', rfl, hle, ho, hrg, hsg, hold, hof, hw, rfl⟩
 have hal := ho.alen
 have hrH : RamAt H' l M := ⟨hrg.ok, hrg.wf, ho.get hrg.hp, ho.get hrg.hb, ho.get hrg.hw, ho.get hrg.hg⟩
 have hmin : min most 32 = if 32 < most then 32 else most := by split <;> omega
 simp only [push_cast, simprocAttr, hal]
 refine ⟨fun hlt => ?_, fun hge => ?_⟩
 ·have hlt2 : out.length < F := by rw [← hF, hmin]; omega
  obtain ⟨k, hk⟩ : ∃ k, F - out.length = k + 1 := ⟨F - out.length - 1, by omega⟩
  rw [hk] at hw
  refine (at2_spec hG hrH pc').to ?_
  have hok : (decide (askedN M.b.length pc' 4 = 0) && canN (wordN M pc') (kindK (wordN M pc'))) = okAt M pc' := rfl
  rw [hok]
  have hn58 := kindK_lt (wordN M pc')
  have hop : (itemN (wordN M pc') pc').i.op = kindK (wordN M pc') := by rw [itemN, dec_laid]; rfl
  have hwk : walkN f M (k + 1) pc' T' = if okAt M pc' then (f (itemN (wordN M pc') pc') (kindK (wordN M pc')) T').2.1 :: (if (f (itemN (wordN M pc') pc') (kindK (wordN M pc')) T').1 then walkN f M k (f (itemN (wordN M pc') pc') (kindK (wordN M pc')) T').2.1.next (f (itemN (wordN M pc') pc') (kindK (wordN M pc')) T').2.2 else []) else [] := rfl
  rw [hwk] at hw
  clear hwk
  generalize itemN (wordN M pc') pc' = x at *
  generalize kindK (wordN M pc') = K at *
  have xl := (it_at x).1
  have xa : partOf x.cells 0 (some 8) = some (.agg x.cells) := rfl
  have xs : splice [AV.int .u32 0, .int .i64 0, .int .i64 0, .int .i64 0, .int .i64 0, .int .u32 0, .int .i64 0, .int .u32 0] 0 x.cells = x.cells := splice_all' rfl
  simp only [push_cast, simprocAttr, hal, xl, xs]
  intro c10 hc10
  cases hO : okAt M pc' with
  | false =>
   rw [hO, if_neg (by simp), List.append_nil] at hw
   simp only [push_cast, simprocAttr]
   refine ⟨upd g c10 ⟨x.cells, 0⟩, out.length, by rw [hw], by rw [hw]; exact ho.upd (.inl hc10), fun d h1 h2 => ?_⟩
   have h3 := hold d h1 h2
   have : d ≠ c10 := fun e => by
    cases hg : g d with
    | none => rw [hg] at h3; exact h1 h3.symm
    | some y => have := ho.get hg; rw [e, hc10] at this; cases this
   rw [upd_ne this]; exact h3
  | true =>
   rw [hO, if_pos rfl] at hw
   simp only [push_cast, simprocAttr]
   have hno : ¬ own c10 := fun e => by
    have h1 := hof _ e
    cases hg : g c10 with
    | none => exact h1 hg
    | some y => have := ho.get hg; rw [hc10] at this; cases this
   have hst1 : St (upd H' c10 ⟨x.cells, 0⟩) T' := hst _ _ _ hsg fun d hd => by
    rw [upd_ne (show d ≠ c10 by rintro rfl; exact hno hd)]
    cases hg : g d with
    | none => exact absurd hg (hof d hd)
    | some y => exact ho.get hg
   refine ⟨hcl, (hon _ c10 x K T' hst1 hno (upd_same _ _ _) hop hn58).mono ?_⟩
   rintro r H2 ⟨rfl, hx2, hs2, hd2⟩
   generalize f x K T' = y at *
   obtain ⟨y1, y2, y3⟩ := y
   simp only at hx2 hs2 hw ⊢
   have ho1 : Own 8 (upd g c10 ⟨x.cells, 0⟩) v (its out) out.length (upd H' c10 ⟨x.cells, 0⟩) := ho.upd (.inl hc10)
   obtain ⟨g2, ho2, hg2, hg3⟩ := Own.to ho1 (H2 := H2) (fun b hb hn => by
     by_cases e : b = c10
     ·rw [e, upd_same] at hb; cases hb
     ·refine hd2 b e fun ho => ?_
      rw [upd_ne e] at hb
      exact hof b ho hb) (fun d hd => by
     by_cases e : d = c10
     ·rw [e, hx2]; simp
     ·by_cases hw : own d
      ·exact hst0 _ _ hs2 d hw
      ·rw [hd2 d e hw]
       intro hz
       have := Own.sub ho1
       cases hu : upd g c10 ⟨x.cells, 0⟩ d with
       | none => exact hd hu
       | some y => rw [this d y hu] at hz; cases hz)
   have gold : ∀ d, d ≠ c10 → ¬ own d → g d ≠ none → g2 d = g d := fun d h1 h2 h3 => by
    rw [hg2 d (by rw [upd_ne h1]; exact h3), hd2 d h1 h2, upd_ne h1]
    cases hg : g d with
    | none => exact absurd hg h3
    | some y => exact ho.get hg
   have gown : ∀ d, own d → g2 d = H2 d := fun d h1 => hg2 d (by rw [upd_ne (show d ≠ c10 by rintro rfl; exact hno h1)]; exact hof d h1)
   have hcg : g c10 = none := by
    cases hg : g c10 with
    | none => rfl
    | some y => have := ho.get hg; rw [hc10] at this; cases this
   have hrg2 : RamAt g2 l M := by
    have hh : ∀ d, l.has d → g2 d = g d := fun d hd => gold d (fun e => by
      have := hrg.not hcg
      exact this (e ▸ hd)) (fun e => hdis d e hd) (fun e => hrg.not e hd)
    exact ⟨hrg.ok, hrg.wf, by rw [hh _ (.inl rfl)]; exact hrg.hp, by rw [hh _ (.inr (.inl rfl))]; exact hrg.hb, by rw [hh _ (.inr (.inr (.inl rfl)))]; exact hrg.hw, by rw [hh _ (.inr (.inr (.inr rfl)))]; exact hrg.hg⟩
   have hsg2 : St g2 y3 := hst _ _ _ hs2 gown
   have hold2 : ∀ d, h d ≠ none → ¬ own d → g2 d = h d := fun d h1 h2 => by
    have h3 := hold d h1 h2
    rw [gold d (fun e => by rw [e, hcg] at h3; exact h1 (e ▸ h3.symm)) h2 (by rw [h3]; exact h1), h3]
   have hof2 : ∀ d, own d → g2 d ≠ none := fun d hd => hst0 _ _ hsg2 d hd
   have gc : g2 c10 = some ⟨y2.cells, 0⟩ := by rw [hg2 c10 (by rw [upd_same]; simp), hx2]
   have yl := (it_at y2).1
   have y7 := (it_at y2).2.2.2.2.1
   have hsn : its (out ++ [y2]) = its out ++ y2.cells := by simp [its]
   have hln : (out ++ [y2]).length = out.length + 1 := by simp
   have ya : partOf y2.cells 0 (some 8) = some (.agg y2.cells) := rfl
   simp only [push_cast, simprocAttr, hx2, yl, ya]
   refine Own.app ho2 (m := 1) yl (by omega) (by omega) fun v3 h3 ho3 => ?_
   rw [← hsn] at ho3
   have hc3 := ho3.get gc
   cases y1 with
   | false =>
    rw [if_neg (by simp)] at hw
    simp only [push_cast, simprocAttr, hc3, yl, y7, ho3.one]
    exact ⟨g2, out.length + 1, by rw [hw]; simp, by rw [hw]; exact ho3, hold2⟩
   | true =>
    rw [if_pos rfl] at hw
    simp only [push_cast, simprocAttr, hc3, yl, y7, ho3.one]
    exact ⟨_, _, by omega, .refl _, out ++ [y2], v3, g2, y2.next, y3, rfl, by omega, by rw [hln]; exact ho3, hrg2, hsg2, hold2, hof2, by rw [hw, show F - (out ++ [y2]).length = k by omega]; simp, rfl⟩
 ·have hz : F - out.length = 0 := by rw [← hF, hmin]; omega
  rw [hz, walkN, List.append_nil] at hw
  exact ⟨g, out.length, by rw [hw], by rw [hw]; exact ho, hold⟩
end
end Go.Ab
end
section
namespace Go.Ab
open Go.Proofs
variable {G : Glo} {h : Heap}
section
variable {l : Pl} {M : IRam}
theorem Row_spec (hG : GF G) (hr : RamAt h l M) (pc : BitVec 32) (most : Int) : Spec Tryd.prog G 25 [.ptr l.p 0, .int .u32 pc.toNat, .int .i64 most] h
  (Is (.ro (its (walkN rowOn M (min most 32).toNat pc [])) (walkN rowOn M (min most 32).toNat pc []).length) h) := by
 have ha := along_spec hG rowOn_ok hr (fun _ h => h.elim) (fun _ h => h.elim) [] trivial pc most
 generalize walkN rowOn M (min most 32).toNat pc [] = L at *
 refine Spec.drop ?_
 refine Spec.weak (Q := fun r H' => ∃ g n, n = L.length ∧ Own 8 g r (its L) n H' ∧ Sub h g) ?_ ?_
 ·refine Spec.walk C25ok rfl ?_
  simp only [push_cast, simprocAttr]
  refine ha.mono ?_
  rintro r H' ⟨g, n, e, ho, hg⟩
  simp only [push_cast, simprocAttr]
  exact ⟨g, n, e, ho, fun d x hd => by rw [hg d (by rw [hd]; simp) (fun h => h)]; exact hd⟩
 ·rintro r H' ⟨g, n, rfl, ho, hs⟩
  exact ⟨_, _, ⟨h, hs, rfl, rfl⟩, ho.freeze⟩
theorem Path_spec (hG : GF G) (hr : RamAt h l M) (pc : BitVec 32) (T : List Bool) (most : Int) : Spec Tryd.prog G 13 [.ptr l.p 0, .int .u32 pc.toNat, .ro (bos T) T.length, .int .i64 most] h
  (Is (.ro (its (walkN pathOn M (min most 32).toNat pc T)) (walkN pathOn M (min most 32).toNat pc T).length) h) := by
 have ha := fun (ct : Nat) (hct : h ct = none) => along_spec hG (pathOn_ok ct) (hr.upd (X := ⟨turnsC T, 0⟩) (hr.not hct)) (fun d e => by subst e; exact hr.not hct) (fun d e => by subst e; rw [upd_same]; simp) T (upd_same _ _ _) pc most
 generalize walkN pathOn M (min most 32).toNat pc T = L at *
 refine Spec.drop ?_
 refine Spec.weak (Q := fun r H' => ∃ g n, n = L.length ∧ Own 8 g r (its L) n H' ∧ Sub h g) ?_ ?_
 ·refine Spec.walk C13ok rfl ?_
  simp only [push_cast, simprocAttr]
  intro ct hct
  refine (ha ct hct).mono ?_
  rintro r H' ⟨g, n, e, ho, hg⟩
  simp only [push_cast, simprocAttr]
  exact ⟨g, n, e, ho, fun d x hd => by
   have hne : d ≠ ct := fun e => by rw [e, hct] at hd; cases hd
   rw [hg d (by rw [upd_ne hne, hd]; simp) hne, upd_ne hne]; exact hd⟩
 ·rintro r H' ⟨g, n, rfl, ho, hs⟩
  exact ⟨_, _, ⟨h, hs, rfl, rfl⟩, ho.freeze⟩
end
end Go.Ab
end
section
namespace Go.Ab
open Go.Proofs
theorem walk_no {f M} {k : Nat} {pc : BitVec 32} {T : List Bool} (ho : okAt M pc = false) : walkN f M k pc T = [] := by
 cases k with
 | zero => rfl
 | succ k => rw [walkN, ho, if_neg (by simp)]
theorem pathOn_br (x : IIt) {n : Nat} (hb : brN n = true) : pathOn x n [] = (false, x, []) := by unfold pathOn; rw [if_neg (by rw [hb]; simp)]
theorem pathOn_no (x : IIt) {n : Nat} (hb : brN n = false) (T : List Bool) : pathOn x n T = (decide (n ≠ 4), x, T) := by unfold pathOn; rw [if_pos hb]
theorem item_op (M : IRam) (pc : BitVec 32) : (itemN (wordN M pc) pc).i.op = kindK (wordN M pc) := by rw [itemN, dec_laid]; rfl
theorem walk_len (f M) : ∀ (k : Nat) (pc : BitVec 32) (T : List Bool), (walkN f M k pc T).length ≤ k := by
 intro k
 induction k with
 | zero => intro pc T; exact Nat.le_refl _
 | succ k ih =>
  intro pc T
  cases ho : okAt M pc with
  | false => rw [walk_no ho]; simp
  | true =>
   rw [walkN, ho, if_pos rfl]
   simp only [List.length_cons]
   split
   ·have := ih (f (itemN (wordN M pc) pc) (kindK (wordN M pc)) T).2.1.next (f (itemN (wordN M pc) pc) (kindK (wordN M pc)) T).2.2
    omega
   ·simp
end Go.Ab
end
section
namespace Go.Ab
open Go.Proofs
variable {G : Glo} {h : Heap}
theorem pathOn_f (x : IIt) {n : Nat} (hb : brN n = true) (r : List Bool) : pathOn x n (false :: r) = (true, x, r) := by unfold pathOn; rw [if_neg (by rw [hb]; simp)]; rfl
theorem pathOn_t (x : IIt) {n : Nat} (hb : brN n = true) (r : List Bool) (hm : x.i.imm.toNat % 4 = 0) : pathOn x n (true :: r) = (true, { x with next := x.pc + x.i.imm }, r) := by unfold pathOn; rw [if_neg (by rw [hb]; simp)]; simp [hm]
theorem pathOn_x (x : IIt) {n : Nat} (hb : brN n = true) (r : List Bool) (hm : x.i.imm.toNat % 4 ≠ 0) : pathOn x n (true :: r) = (false, x, r) := by unfold pathOn; rw [if_neg (by rw [hb]; simp)]; simp [hm]
end Go.Ab
end
section
namespace Go.Ab
open Go.Proofs
variable {G : Glo} {h : Heap}
def IIt.zero : IIt := ⟨0#32, IIn.zero, 0#32⟩
@[push_cast] theorem IIt.len (x : IIt) : x.cells.length = 8 := rfl
@[push_cast] theorem IIt.sp (x : IIt) (a b c d e f g i : AV) : splice [a, b, c, d, e, f, g, i] 0 x.cells = x.cells := rfl
section
variable (l : List IIt) (k : Nat)
@[push_cast] theorem its_p : partOf (its l) (k * 8) (some 8) = if k < l.length then some (.agg (l.getD k IIt.zero).cells) else none := flat_partD _ _ _ IIt.zero IIt.len (by omega) _
@[push_cast] theorem its_7 : (its l)[k * 8 + 7]? = if k < l.length then some (.int .u32 ((l.getD k IIt.zero).next.toNat : Int)) else none := by rw [its, flat_getD _ _ _ IIt.zero IIt.len _ _ (by omega)]; rfl
@[push_cast] theorem its_1 : (its l)[k * 8 + 1]? = if k < l.length then some (.int .i64 (l.getD k IIt.zero).i.op) else none := by rw [its, flat_getD _ _ _ IIt.zero IIt.len _ _ (by omega)]; rfl
@[push_cast] theorem its_p1 : partOf (its l) (k * 8 + 1) (some 6) = if k < l.length then some (.agg (l.getD k IIt.zero).i.cells) else none := by
 split
 ·rename_i hk
  have h1 := flat_drop IIt.cells 8 l (fun x _ => IIt.len x) k (by omega)
  rw [List.drop_eq_getElem_cons hk, List.flatMap_cons] at h1
  rw [partOf_some, if_pos (by rw [its_len]; omega), its, ← List.drop_drop, h1]
  simp [hk]
  rfl
 ·rename_i hk
  rw [partOf_some, if_neg (by rw [its_len]; omega)]
end
def MemAt (h : Heap) (M : IRam) (r : AV) (h' : Heap) : Prop := ∃ l : Pl, r = .ptr l.p 0 ∧ RamAt h' l M ∧ (∀ c, l.has c → h c = none) ∧ ∀ c, ¬ l.has c → h' c = h c
def memN (b : List (BitVec 8)) : IRam := ⟨b, List.replicate (b.length / 64) false, List.replicate (b.length / 64) 0⟩
theorem fill_all {n : Nat} (hn : rightN n = true) {b : List (BitVec 8)} (hb : b.length ≤ n) : fillE (IRam.new n).b.length 2147483648#32 b.length = 0 ∧ (IRam.new n).fill 2147483648#32 b = ⟨b ++ List.replicate (n - b.length) 0, List.replicate (n / 64) false, List.replicate (n / 64) 0⟩ := by
 simp only [rightN, Bool.and_eq_true, decide_eq_true_eq] at hn
 have hl : (IRam.new n).b.length = n := by simp [IRam.new]
 have ha : (2147483648#32).toNat = 2147483648 := rfl
 rw [hl]
 by_cases h0 : b.length = 0
 ·refine ⟨by rw [fillE, if_pos h0], ?_⟩
  rw [IRam.fill, if_neg (fun q => q.1 h0)]
  have : b = [] := List.length_eq_zero_iff.1 h0
  simp [IRam.new, this]
 ·have hh : hasN n 2147483648#32 b.length = true := by simp only [hasN, Bool.and_eq_true, decide_eq_true_eq, ha]; omega
  refine ⟨by rw [fillE, if_neg h0, if_pos hh], ?_⟩
  rw [IRam.fill, hl, if_pos ⟨h0, hh⟩, ha]
  simp [IRam.put, IRam.new]
theorem memory_spec (b : List (BitVec 8)) (hn : rightN b.length = true) : Spec Tryd.prog G 12 [byt b] h (MemAt h (memN b)) := by
 obtain ⟨f1, f2⟩ := fill_all hn (Nat.le_refl b.length)
 rw [Nat.sub_self, List.replicate_zero, List.append_nil] at f2
 have hn' := hn
 simp only [rightN, Bool.and_eq_true, decide_eq_true_eq] at hn'
 refine Spec.walk C12ok rfl ?_
 simp only [push_cast, simprocAttr]
 refine (New_spec b.length hn).mono ?_
 rintro _ H ⟨l, rfl, hr, hnew, hold⟩
 simp only [push_cast, simprocAttr]
 refine (Fill_spec hr 2147483648#32 b (by omega)).mono ?_
 rw [f1, f2]
 rintro _ H2 ⟨rfl, hr2, hold2⟩
 simp only [push_cast, simprocAttr]
 exact ⟨l, rfl, hr2, hnew, fun c hc => by rw [hold2 c hc, hold c hc]⟩
end Go.Ab
end
section
namespace Go.Ab
open Go.Proofs
variable {G : Glo} {h : Heap}
theorem right10_spec (n : Int) : Spec Tryd.prog G 10 [.int .i64 n] h (Is (.bool (rightN n)) h) := by
 have hN : rightN n = (decide (64 ≤ n) && decide (n ≤ 65536) && decide (n % 64 = 0)) := rfl
 generalize rightN n = N at hN ⊢
 refine Spec.is C10ok rfl ?_
 simp only [push_cast, simprocAttr]
 rw [hN]
 by_cases h1 : 64 ≤ n
 ·rw [Int.tmod_eq_emod_of_nonneg (by omega)]
  (first | rfl | (congr 1; done) | (congr 1; rw [Bool.eq_iff_iff]; simp only [Bool.and_eq_true, Bool.or_eq_true, Bool.not_eq_true', decide_eq_true_eq, decide_eq_false_iff_not, Bool.false_eq_true, true_and, and_true]; first | omega | grind))
 ·have h2 : ¬ n ≥ 64 := h1
  simp [h1, h2]
def exB : List (BitVec 8) := [147#8, 0#8, 160#8, 0#8, 227#8, 158#8, 0#8, 254#8]
def exM : IRam := (IRam.new 64).fill 2147483648#32 exB
def exL : List IIt := [itemN 10485907#32 2147483648#32, itemN 4261453539#32 2147483652#32]
theorem exL_eq : walkN rowOn exM (min (9 : Int) 32).toNat 2147483648#32 [] = exL := by kernel_rfl
theorem exL_0 : exL.length = 2 := rfl
theorem exL_1 : (its exL)[9]? = some (.int .i64 6) := by kernel_rfl
theorem exL_2 : (its exL)[15]? = some (.int .u32 2147483656) := by kernel_rfl
theorem exL_3 : partOf (its exL) 1 (some 6) = some (.agg (laidN 10485907#32 (kindK 10485907#32)).cells) := by kernel_rfl
theorem exL_4 : canN 10485907#32 (kindK 10485907#32) = true := by kernel_rfl
theorem exF : fillE (IRam.new 64).b.length 2147483648#32 exB.length = 0 := by kernel_rfl
theorem awake26_spec (hG : GF G) : Spec Tryd.prog G 11 [] h (Is (.bool true) h) := by
 have hc := fun H : Heap => Can_spec (G := G) (h := H) hG 10485907#32 (kindK 10485907#32) (kindK_lt _)
 rw [exL_4] at hc
 have e1 := exL_0
 have e2 := exL_1
 have e3 := exL_2
 have e4 := exL_3
 have hb : [AV.int .u8 147, .int .u8 0, .int .u8 160, .int .u8 0, .int .u8 227, .int .u8 158, .int .u8 0, .int .u8 254] = bys exB := by kernel_rfl
 refine Spec.is C11ok rfl ?_
 simp only [push_cast, simprocAttr]
 refine (New_spec 64 rfl).mono ?_
 rintro _ H ⟨l, rfl, hr, hnew, hold⟩
 simp only [push_cast, simprocAttr]
 have hF := Fill_spec (G := G) hr 2147483648#32 exB (by decide)
 rw [exF] at hF
 rw [hb]
 refine hF.mono ?_
 rintro _ H2 ⟨rfl, hr2, hold2⟩
 simp only [push_cast, simprocAttr]
 have hR := Row_spec hG hr2 2147483648#32 9
 change Spec _ _ _ _ _ (Is (.ro (its (walkN rowOn exM _ _ _)) (walkN rowOn exM _ _ _).length) _) at hR
 rw [exL_eq] at hR
 have hsub : Sub h H2 := fun c x hx => by
  have : ¬ l.has c := fun e => by rw [hnew c e] at hx; cases hx
  rw [hold2 c this, hold c this]; exact hx
 generalize exL = L at *
 refine hR.to ?_
 simp only [push_cast, simprocAttr, e1, e2, e3, e4]
 refine (hc _).to ?_
 simp only [push_cast, simprocAttr]
 exact hsub
end Go.Ab
end
section
namespace Go.Ab
open Go.Proofs
variable {G : Glo} {h : Heap}
theorem walk_most (f M) (pc : BitVec 32) (T : List Bool) (most : Int) : (walkN f M (min most 32).toNat pc T).length ≤ 32 := by
 have := walk_len f M (min most 32).toNat pc T
 omega
theorem mem_sub {M : IRam} {l : Pl} {H : Heap} (hnew : ∀ c, l.has c → h c = none) (hold : ∀ c, ¬ l.has c → H c = h c) : Sub h H := fun c x hx => by
 rw [hold c (fun e => by rw [hnew c e] at hx; cases hx)]; exact hx
structure IWay where
 pc : BitVec 32
 T : List Bool
 most : Int
def IWay.cells (w : IWay) : List AV := [.int .u32 (w.pc.toNat : Int), .ro (bos w.T) w.T.length, .int .i64 w.most]
end Go.Ab
end
section
namespace Go.Ab
open Go.Proofs
def mayN (x : IIt) (next : BitVec 32) : Bool :=
 if next.toNat % 4 ≠ 0 then false else if x.i.op = 4 then true else if x.i.op = 3 then decide (next = x.pc + x.i.imm) else if brN x.i.op.toNat then decide (next = x.pc + 4#32 ∨ next = x.pc + x.i.imm) else decide (next = x.pc + 4#32)
def WkOk (M : IRam) (L : List IIt) : Prop := ∀ (i : Nat) x, L[i]? = some x → okAt M x.pc = true ∧ x.i = decI (wordN M x.pc) ∧ ∀ y, L[i + 1]? = some y → x.next = y.pc ∧ mayN x x.next = true
theorem pathOn_keeps (x : IIt) (n : Nat) (T : List Bool) : (pathOn x n T).2.1.pc = x.pc ∧ (pathOn x n T).2.1.i = x.i := by
 by_cases hb : brN n = true
 ·cases T with
  | nil => rw [pathOn_br x hb]; exact ⟨rfl, rfl⟩
  | cons t r =>
   cases t
   ·rw [pathOn_f x hb]; exact ⟨rfl, rfl⟩
   ·by_cases hm : x.i.imm.toNat % 4 = 0
    ·rw [pathOn_t x hb r hm]; exact ⟨rfl, rfl⟩
    ·rw [pathOn_x x hb r hm]; exact ⟨rfl, rfl⟩
 ·rw [pathOn_no x (by simpa using hb)]; exact ⟨rfl, rfl⟩
theorem asked4 {n : Nat} {pc : BitVec 32} (h : askedN n pc 4 = 0) : pc.toNat % 4 = 0 ∧ hasN n pc 4 = true := by
 unfold askedN at h
 split at h
 ·omega
 ·split at h
  ·omega
  ·rename_i h4
   split at h
   ·rename_i h5; exact ⟨by omega, h5⟩
   ·omega
theorem okAt_asked {M : IRam} {pc : BitVec 32} (h : okAt M pc = true) : askedN M.b.length pc 4 = 0 ∧ canN (wordN M pc) (kindK (wordN M pc)) = true := by
 simpa [okAt] using h
theorem walk_head (M : IRam) : ∀ (k : Nat) (pc : BitVec 32) (T : List Bool) (y : IIt), (walkN pathOn M k pc T)[0]? = some y → y.pc = pc ∧ okAt M pc = true
 | 0, pc, T, y, h => by simp [walkN] at h
 | k + 1, pc, T, y, h => by
  unfold walkN at h
  split at h
  ·rename_i hok
   simp only [List.getElem?_cons_zero, Option.some.injEq] at h
   subst h
   exact ⟨(pathOn_keeps _ _ _).1, hok⟩
  ·simp at h
theorem path_next {M : IRam} {pc : BitVec 32} {T : List Bool} (hs : (pathOn (itemN (wordN M pc) pc) (kindK (wordN M pc)) T).1 = true) (hn : (pathOn (itemN (wordN M pc) pc) (kindK (wordN M pc)) T).2.1.next.toNat % 4 = 0) :
  mayN (pathOn (itemN (wordN M pc) pc) (kindK (wordN M pc)) T).2.1 (pathOn (itemN (wordN M pc) pc) (kindK (wordN M pc)) T).2.1.next = true := by
 have hop := item_op M pc
 have hit : (itemN (wordN M pc) pc).next = if kindK (wordN M pc) = 3 then pc + (itemN (wordN M pc) pc).i.imm else if kindK (wordN M pc) = 4 then 0#32 else pc + 4#32 := rfl
 have hpc : (itemN (wordN M pc) pc).pc = pc := rfl
 generalize itemN (wordN M pc) pc = x at *
 generalize kindK (wordN M pc) = n at *
 obtain ⟨k1, k2⟩ := pathOn_keeps x n T
 unfold mayN
 rw [if_neg (by omega), k2, hop]
 have hbr : brN ((n : Int)).toNat = brN n := by simp
 by_cases h4 : n = 4
 ·rw [if_pos (by omega)]
 rw [if_neg (by omega)]
 by_cases h3 : n = 3
 ·rw [if_pos (by omega)]
  subst h3
  rw [pathOn_no x (by rfl)]
  simp only
  rw [hit, if_pos rfl, hpc]
  simp
 rw [if_neg (by omega), hbr]
 rw [if_neg h3, if_neg h4] at hit
 by_cases hb : brN n = true
 ·rw [if_pos hb]
  cases T with
  | nil => rw [pathOn_br x hb] at hs; simp at hs
  | cons t r =>
   cases t
   ·rw [pathOn_f x hb]; simp [hit, hpc]
   ·by_cases hm : x.i.imm.toNat % 4 = 0
    ·rw [pathOn_t x hb r hm]; simp [hpc]
    ·rw [pathOn_x x hb r hm] at hs; simp at hs
 ·rw [if_neg hb, pathOn_no x (by simpa using hb)]
  simp [hit, hpc]
theorem walk_ok (M : IRam) : ∀ (k : Nat) (pc : BitVec 32) (T : List Bool), WkOk M (walkN pathOn M k pc T)
 | 0, pc, T => by intro i x h; simp [walkN] at h
 | k + 1, pc, T => by
  intro i x hx
  unfold walkN at hx ⊢
  split at hx
  ·rename_i hok
   simp only at hx
   rw [if_pos hok]
   cases i with
   | zero =>
    simp only [List.getElem?_cons_zero, Option.some.injEq] at hx
    subst hx
    obtain ⟨k1, k2⟩ := pathOn_keeps (itemN (wordN M pc) pc) (kindK (wordN M pc)) T
    refine ⟨by rw [k1]; exact hok, by rw [k1, k2]; rfl, fun y hy => ?_⟩
    simp only [Nat.zero_add, List.getElem?_cons_succ] at hy
    split at hy
    ·rename_i hs
     obtain ⟨h1, h2⟩ := walk_head M k _ _ y hy
     refine ⟨h1.symm, path_next hs (asked4 (okAt_asked h2).1).1⟩
    ·simp at hy
   | succ i =>
    simp only [List.getElem?_cons_succ] at hx ⊢
    split at hx
    ·rename_i hs
     simp only [hs, if_true]
     exact walk_ok M k _ _ i x hx
    ·simp at hx
  ·simp at hx
end Go.Ab
end

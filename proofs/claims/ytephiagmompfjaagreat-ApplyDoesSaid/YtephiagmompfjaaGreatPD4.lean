/- What instructions reckon: the program's and the document's. -/
import Derived.Test.YtephiagmompfjaaGreatPD3
import Derived.Test.YtephiagmompfjaaGreatProg
section
/- The code of some functions, with what their types tell written out; each is what the translation gives (kernel_rfl). Printed by mk.py out of the translation. -/
namespace Go.Ab
open Go.Proofs Go.Sc
set_option maxRecDepth 100000
/-- (mimesis/ir.judge).exit -/
abbrev C124_0 := Ro [Br 3 t0,Br 5 t2,As 6 kF]
abbrev C124_1 := Ro [Mv 8 t1,Bn 9 .lss t8 (kI 0),Mv 10 t9,Mvf 11 10 t1,Faf 12 10 0 t3,Ldf 13 10 none t12,Ncf 14 10 t13,Faf 15 10 2 t14,Ldf 16 10 none t15,Lnf 17 10 t16,Bnf 18 10 .geq t11 t17,Pk 19 t10 kT t18]
abbrev C124_2 := Ro [As 6 kF]
abbrev C124_3 := Sq [6] C124_2 .ret
abbrev C124_4 := Cd t19 C124_3 .skip
abbrev C124_5 := Sq [1,3,5,19] C124_1 C124_4
abbrev C124_6 := Ro [Fa 20 0 t3,Ld 21 none t20,Nc 22 t21,Fa 23 2 t22,Ld 24 none t23,Mv 25 t1,Ix 26 5 t24 t25,Ld 27 (some 5) t26,Al 7 [zi,z4,zi,zi,.nils],Sxn 5 t7 t27]
abbrev C124_7 := Ro [Fa 28 2 t7,Ld 29 none t28,Bn 30 .neq t29 (kI (-1)),Mv 31 t30,Ldt 32 31 (some 1) t3,Fat 33 31 2 t7,Ldt 34 31 none t33,Ldt 35 31 none t5,Cat 36 31 149 [t32,t34,t35],Unt 37 31 .not t36,Pk 38 t31 t37 kF]
abbrev C124_8 := Ro [As 6 kF]
abbrev C124_9 := Sq [6] C124_8 .ret
abbrev C124_10 := Cd t38 C124_9 .skip
abbrev C124_11 := Sq [3,5,7,38] C124_7 C124_10
abbrev C124_12 := Ro [Fa 39 4 t7,Ld 40 none t39,⟨(some 41),none,.r (.mkf 152 [] [t3,t5])⟩,Ca 42 151 [t40,t41],Un 43 .not t42,As 6 t43]
abbrev C124_13 := Sq [6] C124_12 .ret
abbrev C124_14 := Sq [3,5,7] C124_11 C124_13
abbrev C124_15 : ACode := .fz 7 C124_14
abbrev C124_16 := Sq [3,5,7] C124_6 C124_15
abbrev C124_17 := Sq [1,3,5] C124_5 C124_16
abbrev C124_18 := Sq [1,3,5] C124_0 C124_17
abbrev C124 := C124_18
abbrev C124r : List RV := [.t 6]
theorem C124ok : Okf Tryz.prog 124 Tryz.f124 C124 C124r := ⟨Tryz.func124, by kernel_rfl, by kernel_rfl, by kernel_rfl⟩

/-- (*mimesis/timer.Timer).Up -/
abbrev C125_0 := Ro [As 4 kF]
abbrev C125_1 := Dr [Mv 5 t0,Ep 6 true t5 kP,Mv 7 t6,Mvt 8 7 t0,Mvt 9 7 t1,Cat 10 7 127 [t8,t9],Mvt 11 7 t0,Nct 12 7 t11,Fat 13 7 1 t12,Ldt 14 7 none t13,Bnt 15 7 .geq t10 t14,Pk 16 t7 t15 kF,As 4 t16] [[],[0],[1],[2],[2],[3,4,2,2],[2],[6,2],[7,2],[8,2],[5,9,2],[2,10],[11,5,0,1,2,3,4,5,6,7,8,9,10,11]] [(0,[]),(1,[]),(2,[]),(3,[]),(4,[]),(6,[]),(7,[]),(8,[]),(9,[]),(5,[6,7,8,9]),(10,[]),(11,[]),(12,[])]
abbrev C125_2 := Sq [4] C125_1 .ret
abbrev C125_3 := Sq [0,1] C125_0 C125_2
abbrev C125 := C125_3
abbrev C125r : List RV := [.t 4]
theorem C125ok : Okf Tryz.prog 125 Tryz.f125 C125 C125r := ⟨Tryz.func125, by kernel_rfl, by kernel_rfl, by kernel_rfl⟩

/-- (*mimesis/console.Console).Ready -/
abbrev C126_0 := Ro [As 2 kF]
abbrev C126_1 := Ro [Mv 3 t0,Ep 4 true t3 kP,Mv 5 t4,Mvt 6 5 t0,Nct 7 5 t6,Fat 8 5 2 t7,Ldt 9 5 none t8,Cat 10 5 136 [t9],Bnt 11 5 .gtr t10 (kI 0),Pk 12 t5 t11 kF,As 2 t12]
abbrev C126_2 := Sq [2] C126_1 .ret
abbrev C126_3 := Sq [0] C126_0 C126_2
abbrev C126 := C126_3
abbrev C126r : List RV := [.t 2]
theorem C126ok : Okf Tryz.prog 126 Tryz.f126 C126 C126r := ⟨Tryz.func126, by kernel_rfl, by kernel_rfl, by kernel_rfl⟩

/-- (*mimesis/timer.Timer).Now -/
abbrev C127_0 := Ro [As 4 (kL 0)]
abbrev C127_1 := Ro [Mv 5 t0,Ep 6 false t5 kP]
abbrev C127_2 := Ro [As 4 (kL 0)]
abbrev C127_3 := Sq [4] C127_2 .ret
abbrev C127_4 := Cd t6 C127_3 .skip
abbrev C127_5 := Sq [0,1,6] C127_1 C127_4
abbrev C127_6 := Ro [Mv 7 t1,Mv 8 t0,Nc 9 t8,Fa 10 0 t9,Ld 11 none t10,Bn 12 .add t7 t11,As 4 t12]
abbrev C127_7 := Sq [4] C127_6 .ret
abbrev C127_8 := Sq [0,1] C127_5 C127_7
abbrev C127_9 := Sq [0,1] C127_0 C127_8
abbrev C127 := C127_9
abbrev C127r : List RV := [.t 4]
theorem C127ok : Okf Tryz.prog 127 Tryz.f127 C127 C127r := ⟨Tryz.func127, by kernel_rfl, by kernel_rfl, by kernel_rfl⟩

/-- (*mimesis/ram.Ram).Load -/
abbrev C128_0 := Ro [As 6 (kU 0),As 7 (kI 0)]
abbrev C128_1 := Ro [Mv 9 t0,Mv 10 t1,Mv 11 t2,Ca 12 153 [t9,t10,t11],As 8 t12]
abbrev C128_2 := Ro [Mv 13 t8,Bn 14 .neq t13 (kI 0)]
abbrev C128_3 := Ro [Mv 15 t8,As 6 (kU 0),As 7 t15]
abbrev C128_4 := Sq [6,7] C128_3 .ret
abbrev C128_5 := Cd t14 C128_4 .skip
abbrev C128_6 := Sq [0,1,2,8,14] C128_2 C128_5
abbrev C128_7 := Sq [0,1,2,8] C128_1 C128_6
abbrev C128_8 := Ro [Mv 16 t0,Mv 17 t1,Mv 18 t2,Ca 19 119 [t16,t17,t18],Ca 20 154 [t19],Ex 21 0 t20,Ex 22 1 t20,As 6 t21,As 7 t22]
abbrev C128_9 := Sq [6,7] C128_8 .ret
abbrev C128_10 := Sq [0,1,2] C128_7 C128_9
abbrev C128_11 := Sq [0,1,2] C128_0 C128_10
abbrev C128 := C128_11
abbrev C128r : List RV := [.t 6,.t 7]
theorem C128ok : Okf Tryz.prog 128 Tryz.f128 C128 C128r := ⟨Tryz.func128, by kernel_rfl, by kernel_rfl, by kernel_rfl⟩

/-- mimesis/inst.Loads -/
abbrev C129_0 := Ro [As 2 (kI 0)]
abbrev C129_1 := Ro [Mv 3 t0]
abbrev C129_2 := Ro [Bn 5 .eql t3 (kI 11),As 4 t5]
abbrev C129_3 := Ro [Bn 6 .eql t3 (kI 14),As 4 t6]
abbrev C129_4 := Cd t4 .skip C129_3
abbrev C129_5 := Sq [3,4] C129_2 C129_4
abbrev C129_6 := Ro [As 2 (kI 1)]
abbrev C129_7 := Sq [2] C129_6 .ret
abbrev C129_8 := Ro [Bn 8 .eql t3 (kI 12),As 7 t8]
abbrev C129_9 := Ro [Bn 9 .eql t3 (kI 15),As 7 t9]
abbrev C129_10 := Cd t7 .skip C129_9
abbrev C129_11 := Sq [3,7] C129_8 C129_10
abbrev C129_12 := Ro [As 2 (kI 2)]
abbrev C129_13 := Sq [2] C129_12 .ret
abbrev C129_14 := Ro [Bn 11 .eql t3 (kI 13),As 10 t11]
abbrev C129_15 := Ro [As 2 (kI 4)]
abbrev C129_16 := Sq [2] C129_15 .ret
abbrev C129_17 := Cd t10 C129_16 .skip
abbrev C129_18 := Sq [10] C129_14 C129_17
abbrev C129_19 := Cd t7 C129_13 C129_18
abbrev C129_20 := Sq [3,7] C129_11 C129_19
abbrev C129_21 := Cd t4 C129_7 C129_20
abbrev C129_22 := Sq [3,4] C129_5 C129_21
abbrev C129_23 := Bk 0 C129_22
abbrev C129_24 := Sq [3] C129_1 C129_23
abbrev C129_25 := Ro [As 2 (kI 0)]
abbrev C129_26 := Sq [2] C129_25 .ret
abbrev C129_27 := Sq [] C129_24 C129_26
abbrev C129_28 := Sq [0] C129_0 C129_27
abbrev C129 := C129_28
abbrev C129r : List RV := [.t 2]
theorem C129ok : Okf Tryz.prog 129 Tryz.f129 C129 C129r := ⟨Tryz.func129, by kernel_rfl, by kernel_rfl, by kernel_rfl⟩

/-- mimesis/word.Extend -/
abbrev C130_0 := Ro [As 4 (kU 0),As 5 (kI 0)]
abbrev C130_1 := Ro [Mv 7 t1,Bn 8 .lss t7 (kI 1),Mv 9 t8,Mvf 10 9 t1,Bnf 11 9 .gtr t10 (kI 32),Pk 12 t9 kT t11]
abbrev C130_2 := Ro [As 4 (kU 0),As 5 (kI 4)]
abbrev C130_3 := Sq [4,5] C130_2 .ret
abbrev C130_4 := Cd t12 C130_3 .skip
abbrev C130_5 := Sq [0,1,12] C130_1 C130_4
abbrev C130_6 := Ro [Mv 13 t1,Bn 14 .sub (kI 32) t13,Cv 15 .u64 t14,As 6 t15]
abbrev C130_7 := Ro [Mv 16 t0,Mv 17 t6,Bn 18 .shl t16 t17,Cv 19 .i32 t18,Mv 20 t6,Bn 21 .shr t19 t20,Cv 22 .u32 t21,As 4 t22,As 5 (kI 0)]
abbrev C130_8 := Sq [4,5] C130_7 .ret
abbrev C130_9 := Sq [0,6] C130_6 C130_8
abbrev C130_10 := Sq [0,1] C130_5 C130_9
abbrev C130_11 := Sq [0,1] C130_0 C130_10
abbrev C130 := C130_11
abbrev C130r : List RV := [.t 4,.t 5]
theorem C130ok : Okf Tryz.prog 130 Tryz.f130 C130 C130r := ⟨Tryz.func130, by kernel_rfl, by kernel_rfl, by kernel_rfl⟩

/-- (*mimesis/ram.Ram).Store -/
abbrev C131_0 := Ro [As 8 kF,As 9 (kI 0)]
abbrev C131_1 := Ro [Mv 15 t0,Mv 16 t1,Mv 17 t2,Ca 18 153 [t15,t16,t17],As 10 t18]
abbrev C131_2 := Ro [Mv 19 t10,Bn 20 .neq t19 (kI 0)]
abbrev C131_3 := Ro [Mv 21 t10,As 8 kF,As 9 t21]
abbrev C131_4 := Sq [8,9] C131_3 .ret
abbrev C131_5 := Cd t20 C131_4 .skip
abbrev C131_6 := Sq [0,1,2,3,10,20] C131_2 C131_5
abbrev C131_7 := Sq [0,1,2,3,10] C131_1 C131_6
abbrev C131_8 := Ro [Mv 23 t3,Mv 24 t2,Ca 25 155 [t23,t24],Mv 22 t25,Ex 26 0 t22,Ex 27 1 t22,As 11 t26,As 12 t27]
abbrev C131_9 := Ro [Mv 28 t0,Mv 29 t1,Mv 30 t2,Ca 31 119 [t28,t29,t30],Mv 32 t11,⟨(some 33),none,.e (.cpy 1 t31 t32)⟩]
abbrev C131_10 := Ro [Mv 34 t0,Mv 35 t1,Ca 36 156 [t34,t35],As 13 t36]
abbrev C131_11 := Ro [Mv 37 t0,Nc 38 t37,Fa 39 1 t38,Ld 40 none t39,Mv 41 t13,Ix 42 1 t40 t41,Ld 43 none t42,As 14 t43]
abbrev C131_12 := Ro [Mv 44 t14]
abbrev C131_13 := Ro [Mv 45 t0,Nc 46 t45,Fa 47 1 t46,Ld 48 none t47,Mv 49 t13,Ix 50 1 t48 t49,Sxn 1 t50 kF]
abbrev C131_14 := Ro [Mv 51 t0,Nc 52 t51,Fa 53 2 t52,Ld 54 none t53,Mv 55 t13,Ix 56 1 t54 t55,Ld 57 none t56,Bn 58 .add t57 (kL 1),Ix 59 1 t54 t55,Sxn 1 t59 t58]
abbrev C131_15 := Sq [0,13,14] C131_13 C131_14
abbrev C131_16 := Cd t44 C131_15 .skip
abbrev C131_17 := Sq [0,13,14,44] C131_12 C131_16
abbrev C131_18 := Ro [Mv 60 t14,As 8 t60,As 9 (kI 0)]
abbrev C131_19 := Sq [8,9] C131_18 .ret
abbrev C131_20 := Sq [14] C131_17 C131_19
abbrev C131_21 := Sq [0,13,14] C131_11 C131_20
abbrev C131_22 := Sq [0,13] C131_10 C131_21
abbrev C131_23 := Sq [0,1] C131_9 C131_22
abbrev C131_24 := Sq [0,1,2,11] C131_8 C131_23
abbrev C131_25 := Sq [0,1,2,3] C131_7 C131_24
abbrev C131_26 := Sq [0,1,2,3] C131_0 C131_25
abbrev C131 := C131_26
abbrev C131r : List RV := [.t 8,.t 9]
theorem C131ok : Okf Tryz.prog 131 Tryz.f131 C131 C131r := ⟨Tryz.func131, by kernel_rfl, by kernel_rfl, by kernel_rfl⟩

/-- mimesis/inst.Stores -/
abbrev C132_0 := Ro [As 2 (kI 0)]
abbrev C132_1 := Ro [Mv 3 t0]
abbrev C132_2 := Ro [Bn 5 .eql t3 (kI 16),As 4 t5]
abbrev C132_3 := Ro [As 2 (kI 1)]
abbrev C132_4 := Sq [2] C132_3 .ret
abbrev C132_5 := Ro [Bn 7 .eql t3 (kI 17),As 6 t7]
abbrev C132_6 := Ro [As 2 (kI 2)]
abbrev C132_7 := Sq [2] C132_6 .ret
abbrev C132_8 := Ro [Bn 9 .eql t3 (kI 18),As 8 t9]
abbrev C132_9 := Ro [As 2 (kI 4)]
abbrev C132_10 := Sq [2] C132_9 .ret
abbrev C132_11 := Cd t8 C132_10 .skip
abbrev C132_12 := Sq [8] C132_8 C132_11
abbrev C132_13 := Cd t6 C132_7 C132_12
abbrev C132_14 := Sq [3,6] C132_5 C132_13
abbrev C132_15 := Cd t4 C132_4 C132_14
abbrev C132_16 := Sq [3,4] C132_2 C132_15
abbrev C132_17 := Bk 0 C132_16
abbrev C132_18 := Sq [3] C132_1 C132_17
abbrev C132_19 := Ro [As 2 (kI 0)]
abbrev C132_20 := Sq [2] C132_19 .ret
abbrev C132_21 := Sq [] C132_18 C132_20
abbrev C132_22 := Sq [0] C132_0 C132_21
abbrev C132 := C132_22
abbrev C132r : List RV := [.t 2]
theorem C132ok : Okf Tryz.prog 132 Tryz.f132 C132 C132r := ⟨Tryz.func132, by kernel_rfl, by kernel_rfl, by kernel_rfl⟩

/-- mimesis/ir.Reckons -/
abbrev C133_0 := Ro [As 2 kF]
abbrev C133_1 := Ro [Mv 3 t0,Ca 4 157 [t3],Mv 5 t4,Mvf 6 5 t0,Caf 7 5 158 [t6],Pk 8 t5 kT t7,As 2 t8]
abbrev C133_2 := Sq [2] C133_1 .ret
abbrev C133_3 := Sq [0] C133_0 C133_2
abbrev C133 := C133_3
abbrev C133r : List RV := [.t 2]
theorem C133ok : Okf Tryz.prog 133 Tryz.f133 C133 C133r := ⟨Tryz.func133, by kernel_rfl, by kernel_rfl, by kernel_rfl⟩

/-- mimesis/alu.Do -/
abbrev C134_0 := Ro [As 6 (kU 0),As 7 (kI 0)]
abbrev C134_1 := Ro [Mv 9 t2,Bn 10 .and t9 (kU 31),Cv 11 .u64 t10,As 8 t11]
abbrev C134_2 := Ro [Mv 12 t0,Ca 13 159 [t12]]
abbrev C134_3 := Ro [Bn 15 .eql t13 (kI 29),As 14 t15]
abbrev C134_4 := Cd t14 (.exit 1) .skip
abbrev C134_5 := Sq [1,2,8,13,14] C134_3 C134_4
abbrev C134_6 := Ro [Bn 17 .eql t13 (kI 28),As 16 t17]
abbrev C134_7 := Cd t16 (.exit 2) .skip
abbrev C134_8 := Sq [1,2,8,13,16] C134_6 C134_7
abbrev C134_9 := Ro [Bn 19 .eql t13 (kI 30),As 18 t19]
abbrev C134_10 := Cd t18 (.exit 3) .skip
abbrev C134_11 := Sq [1,2,8,13,18] C134_9 C134_10
abbrev C134_12 := Ro [Bn 21 .eql t13 (kI 31),As 20 t21]
abbrev C134_13 := Cd t20 (.exit 4) .skip
abbrev C134_14 := Sq [1,2,8,13,20] C134_12 C134_13
abbrev C134_15 := Ro [Bn 23 .eql t13 (kI 32),As 22 t23]
abbrev C134_16 := Cd t22 (.exit 5) .skip
abbrev C134_17 := Sq [1,2,8,13,22] C134_15 C134_16
abbrev C134_18 := Ro [Bn 25 .eql t13 (kI 33),As 24 t25]
abbrev C134_19 := Cd t24 (.exit 6) .skip
abbrev C134_20 := Sq [1,2,8,13,24] C134_18 C134_19
abbrev C134_21 := Ro [Bn 27 .eql t13 (kI 34),As 26 t27]
abbrev C134_22 := Cd t26 (.exit 7) .skip
abbrev C134_23 := Sq [1,2,8,13,26] C134_21 C134_22
abbrev C134_24 := Ro [Bn 29 .eql t13 (kI 35),As 28 t29]
abbrev C134_25 := Cd t28 (.exit 8) .skip
abbrev C134_26 := Sq [1,2,8,13,28] C134_24 C134_25
abbrev C134_27 := Ro [Bn 31 .eql t13 (kI 36),As 30 t31]
abbrev C134_28 := Cd t30 (.exit 9) .skip
abbrev C134_29 := Sq [1,2,13,30] C134_27 C134_28
abbrev C134_30 := Ro [Bn 33 .eql t13 (kI 37),As 32 t33]
abbrev C134_31 := Cd t32 (.exit 10) .skip
abbrev C134_32 := Sq [1,2,32] C134_30 C134_31
abbrev C134_33 := Sq [1,2,13] C134_29 C134_32
abbrev C134_34 := Sq [1,2,13] C134_26 C134_33
abbrev C134_35 := Sq [1,2,8,13] C134_23 C134_34
abbrev C134_36 := Sq [1,2,8,13] C134_20 C134_35
abbrev C134_37 := Sq [1,2,8,13] C134_17 C134_36
abbrev C134_38 := Sq [1,2,8,13] C134_14 C134_37
abbrev C134_39 := Sq [1,2,8,13] C134_11 C134_38
abbrev C134_40 := Sq [1,2,8,13] C134_8 C134_39
abbrev C134_41 := Sq [1,2,8,13] C134_5 C134_40
abbrev C134_42 := Sq [] C134_41 (.exit 0)
abbrev C134_43 := Bk 1 C134_42
abbrev C134_44 := Ro [Mv 34 t2,Un 35 .neg t34,As 2 t35]
abbrev C134_45 := Sq [1,2] C134_43 C134_44
abbrev C134_46 := Bk 2 C134_45
abbrev C134_47 := Ro [Mv 36 t1,Mv 37 t2,Bn 38 .add t36 t37,As 6 t38,As 7 (kI 0)]
abbrev C134_48 := Sq [6,7] C134_47 .ret
abbrev C134_49 := Sq [] C134_48 (.exit 0)
abbrev C134_50 := Sq [1,2] C134_46 C134_49
abbrev C134_51 := Bk 3 C134_50
abbrev C134_52 := Ro [Mv 39 t1,Mv 40 t8,Bn 41 .shl t39 t40,As 6 t41,As 7 (kI 0)]
abbrev C134_53 := Sq [6,7] C134_52 .ret
abbrev C134_54 := Sq [] C134_53 (.exit 0)
abbrev C134_55 := Sq [1,8] C134_51 C134_54
abbrev C134_56 := Bk 4 C134_55
abbrev C134_57 := Ro [Mv 42 t1,Bn 43 .xor t42 (kU 2147483648),As 1 t43]
abbrev C134_58 := Ro [Mv 44 t2,Bn 45 .xor t44 (kU 2147483648),As 2 t45]
abbrev C134_59 := Sq [1,2] C134_57 C134_58
abbrev C134_60 := Sq [1,2] C134_56 C134_59
abbrev C134_61 := Bk 5 C134_60
abbrev C134_62 := Ro [Mv 46 t1,Mv 47 t2,Bn 48 .lss t46 t47,Ca 49 160 [t48],As 6 t49,As 7 (kI 0)]
abbrev C134_63 := Sq [6,7] C134_62 .ret
abbrev C134_64 := Sq [] C134_63 (.exit 0)
abbrev C134_65 := Sq [1,2] C134_61 C134_64
abbrev C134_66 := Bk 6 C134_65
abbrev C134_67 := Ro [Mv 50 t1,Mv 51 t2,Bn 52 .xor t50 t51,As 6 t52,As 7 (kI 0)]
abbrev C134_68 := Sq [6,7] C134_67 .ret
abbrev C134_69 := Sq [] C134_68 (.exit 0)
abbrev C134_70 := Sq [1,2] C134_66 C134_69
abbrev C134_71 := Bk 7 C134_70
abbrev C134_72 := Ro [Mv 53 t1,Mv 54 t8,Bn 55 .shr t53 t54,As 6 t55,As 7 (kI 0)]
abbrev C134_73 := Sq [6,7] C134_72 .ret
abbrev C134_74 := Sq [] C134_73 (.exit 0)
abbrev C134_75 := Sq [1,8] C134_71 C134_74
abbrev C134_76 := Bk 8 C134_75
abbrev C134_77 := Ro [Mv 56 t1,Cv 57 .i32 t56,Mv 58 t8,Bn 59 .shr t57 t58,Cv 60 .u32 t59,As 6 t60,As 7 (kI 0)]
abbrev C134_78 := Sq [6,7] C134_77 .ret
abbrev C134_79 := Sq [] C134_78 (.exit 0)
abbrev C134_80 := Sq [1,8] C134_76 C134_79
abbrev C134_81 := Bk 9 C134_80
abbrev C134_82 := Ro [Mv 61 t1,Mv 62 t2,Bn 63 .or t61 t62,As 6 t63,As 7 (kI 0)]
abbrev C134_83 := Sq [6,7] C134_82 .ret
abbrev C134_84 := Sq [] C134_83 (.exit 0)
abbrev C134_85 := Sq [1,2] C134_81 C134_84
abbrev C134_86 := Bk 10 C134_85
abbrev C134_87 := Ro [Mv 64 t1,Mv 65 t2,Bn 66 .and t64 t65,As 6 t66,As 7 (kI 0)]
abbrev C134_88 := Sq [6,7] C134_87 .ret
abbrev C134_89 := Sq [] C134_88 (.exit 0)
abbrev C134_90 := Sq [1,2] C134_86 C134_89
abbrev C134_91 := Bk 0 C134_90
abbrev C134_92 := Sq [1,2,8,13] C134_2 C134_91
abbrev C134_93 := Ro [As 6 (kU 0),As 7 (kI 9)]
abbrev C134_94 := Sq [6,7] C134_93 .ret
abbrev C134_95 := Sq [] C134_92 C134_94
abbrev C134_96 := Sq [0,1,2,8] C134_1 C134_95
abbrev C134_97 := Sq [0,1,2] C134_0 C134_96
abbrev C134 := C134_97
abbrev C134r : List RV := [.t 6,.t 7]
theorem C134ok : Okf Tryz.prog 134 Tryz.f134 C134 C134r := ⟨Tryz.func134, by kernel_rfl, by kernel_rfl, by kernel_rfl⟩

/-- mimesis/muldiv.Do -/
abbrev C135_0 := Ro [As 6 (kU 0),As 7 (kI 0)]
abbrev C135_1 := Ro [Mv 12 t0]
abbrev C135_2 := Ro [Bn 14 .eql t12 (kI 50),As 13 t14]
abbrev C135_3 := Ro [Mv 15 t1,Mv 16 t2,Bn 17 .mul t15 t16,As 6 t17,As 7 (kI 0)]
abbrev C135_4 := Sq [6,7] C135_3 .ret
abbrev C135_5 := Ro [Bn 19 .eql t12 (kI 51),As 18 t19]
abbrev C135_6 := Ro [Bn 20 .eql t12 (kI 52),As 18 t20]
abbrev C135_7 := Ro [Bn 21 .eql t12 (kI 53),As 18 t21]
abbrev C135_8 := Cd t18 .skip C135_7
abbrev C135_9 := Sq [0,1,2,12,18] C135_6 C135_8
abbrev C135_10 := Cd t18 .skip C135_9
abbrev C135_11 := Sq [0,1,2,12,18] C135_5 C135_10
abbrev C135_12 := Ro [Mv 22 t1,Mv 23 t2,Mv 24 t0,Bn 25 .neq t24 (kI 53),Mv 26 t0,Bn 27 .eql t26 (kI 51),Ca 28 161 [t22,t23,t25,t27],As 6 t28,As 7 (kI 0)]
abbrev C135_13 := Sq [6,7] C135_12 .ret
abbrev C135_14 := Ro [Bn 30 .eql t12 (kI 54),As 29 t30]
abbrev C135_15 := Ro [Bn 31 .eql t12 (kI 55),As 29 t31]
abbrev C135_16 := Cd t29 .skip C135_15
abbrev C135_17 := Sq [0,1,2,12,29] C135_14 C135_16
abbrev C135_18 := Ro [Mv 33 t1,Mv 34 t2,Mv 35 t0,Bn 36 .eql t35 (kI 54),Ca 37 162 [t33,t34,t36],Mv 32 t37,Ex 38 0 t32,Ex 39 1 t32,As 8 t38,As 9 t39]
abbrev C135_19 := Ro [Mv 40 t8,As 6 t40,As 7 (kI 0)]
abbrev C135_20 := Sq [6,7] C135_19 .ret
abbrev C135_21 := Sq [8] C135_18 C135_20
abbrev C135_22 := Ro [Bn 42 .eql t12 (kI 56),As 41 t42]
abbrev C135_23 := Ro [Bn 43 .eql t12 (kI 57),As 41 t43]
abbrev C135_24 := Cd t41 .skip C135_23
abbrev C135_25 := Sq [0,1,2,12,41] C135_22 C135_24
abbrev C135_26 := Ro [Mv 45 t1,Mv 46 t2,Mv 47 t0,Bn 48 .eql t47 (kI 56),Ca 49 162 [t45,t46,t48],Mv 44 t49,Ex 50 0 t44,Ex 51 1 t44,As 10 t50,As 11 t51]
abbrev C135_27 := Ro [Mv 52 t11,As 6 t52,As 7 (kI 0)]
abbrev C135_28 := Sq [6,7] C135_27 .ret
abbrev C135_29 := Sq [11] C135_26 C135_28
abbrev C135_30 := Cd t41 C135_29 .skip
abbrev C135_31 := Sq [0,1,2,41] C135_25 C135_30
abbrev C135_32 := Cd t29 C135_21 C135_31
abbrev C135_33 := Sq [0,1,2,12,29] C135_17 C135_32
abbrev C135_34 := Cd t18 C135_13 C135_33
abbrev C135_35 := Sq [0,1,2,12,18] C135_11 C135_34
abbrev C135_36 := Cd t13 C135_4 C135_35
abbrev C135_37 := Sq [0,1,2,12,13] C135_2 C135_36
abbrev C135_38 := Bk 0 C135_37
abbrev C135_39 := Sq [0,1,2,12] C135_1 C135_38
abbrev C135_40 := Ro [As 6 (kU 0),As 7 (kI 9)]
abbrev C135_41 := Sq [6,7] C135_40 .ret
abbrev C135_42 := Sq [] C135_39 C135_41
abbrev C135_43 := Sq [0,1,2] C135_0 C135_42
abbrev C135 := C135_43
abbrev C135r : List RV := [.t 6,.t 7]
theorem C135ok : Okf Tryz.prog 135 Tryz.f135 C135 C135r := ⟨Tryz.func135, by kernel_rfl, by kernel_rfl, by kernel_rfl⟩

/-- (*mimesis/fifo.Fifo).Len -/
abbrev C136_0 := Ro [As 2 (kI 0)]
abbrev C136_1 := Ro [Mv 3 t0,Ep 4 false t3 kP]
abbrev C136_2 := Ro [As 2 (kI 0)]
abbrev C136_3 := Sq [2] C136_2 .ret
abbrev C136_4 := Cd t4 C136_3 .skip
abbrev C136_5 := Sq [0,4] C136_1 C136_4
abbrev C136_6 := Ro [Mv 5 t0,Nc 6 t5,Fa 7 17 t6,Ld 8 none t7,As 2 t8]
abbrev C136_7 := Sq [2] C136_6 .ret
abbrev C136_8 := Sq [0] C136_5 C136_7
abbrev C136_9 := Sq [0] C136_0 C136_8
abbrev C136 := C136_9
abbrev C136r : List RV := [.t 2]
theorem C136ok : Okf Tryz.prog 136 Tryz.f136 C136 C136r := ⟨Tryz.func136, by kernel_rfl, by kernel_rfl, by kernel_rfl⟩

/-- mimesis/mimesisref01.Bits -/
abbrev C137_0 := Ro [As 6 (kU 0)]
abbrev C137_1 := Dr [Mv 7 t0,Cv 8 .u64 t7,Mv 9 t1,Ca 10 109 [t9],Bn 11 .quo t8 t10,Mv 12 t2,Ca 13 109 [t12],Bn 14 .rem t11 t13,Cv 15 .u32 t14,As 6 t15] [[],[0],[],[2],[1,3],[],[5,3],[4,6],[7],[8,6,0,1,2,3,4,5,6,7,8]] [(0,[]),(1,[]),(2,[]),(5,[]),(3,[0,1,5]),(4,[]),(6,[0,1,4]),(7,[]),(8,[]),(9,[])]
abbrev C137_2 := Sq [6] C137_1 .ret
abbrev C137_3 := Sq [0,1,2] C137_0 C137_2
abbrev C137 := C137_3
abbrev C137r : List RV := [.t 6]
theorem C137ok : Okf Tryz.prog 137 Tryz.f137 C137 C137r := ⟨Tryz.func137, by kernel_rfl, by kernel_rfl, by kernel_rfl⟩

/-- mimesis/mimesisref13.Up -/
abbrev C138_0 := Ro [Br 2 t0,As 4 kF]
abbrev C138_1 := Dr [Ld 5 (some 3) t2,Mv 6 t1,Ca 7 163 [t5,t6],Fa 8 1 t2,Ld 9 none t8,Bn 10 .geq t7 t9,As 4 t10] [[],[],[0,1],[],[3],[2,4],[5,2,0,1,2,3,4,5]] [(0,[]),(1,[]),(3,[]),(4,[]),(2,[3,4]),(5,[]),(6,[])]
abbrev C138_2 := Sq [4] C138_1 .ret
abbrev C138_3 := Sq [1,2] C138_0 C138_2
abbrev C138 := C138_3
abbrev C138r : List RV := [.t 4]
theorem C138ok : Okf Tryz.prog 138 Tryz.f138 C138 C138r := ⟨Tryz.func138, by kernel_rfl, by kernel_rfl, by kernel_rfl⟩

/-- mimesis/mimesisref08.high -/
abbrev C139_0 := Ro [As 2 (kU 0)]
abbrev C139_1 := Ro [Mv 3 t0,Bn 4 .geq t3 (kI 0)]
abbrev C139_2 := Ro [Mv 5 t0,Bn 6 .quo t5 (kI 4294967296),Ca 7 140 [t6],As 2 t7]
abbrev C139_3 := Sq [2] C139_2 .ret
abbrev C139_4 := Cd t4 C139_3 .skip
abbrev C139_5 := Sq [0,4] C139_1 C139_4
abbrev C139_6 := Ro [Mv 8 t0,Bn 9 .add t8 (kI 1),Bn 10 .sub (kI 0) t9,Bn 11 .quo t10 (kI 4294967296),Bn 12 .sub (kI 0) t11,Bn 13 .sub t12 (kI 1),Ca 14 140 [t13],As 2 t14]
abbrev C139_7 := Sq [2] C139_6 .ret
abbrev C139_8 := Sq [0] C139_5 C139_7
abbrev C139_9 := Sq [0] C139_0 C139_8
abbrev C139 := C139_9
abbrev C139r : List RV := [.t 2]
theorem C139ok : Okf Tryz.prog 139 Tryz.f139 C139 C139r := ⟨Tryz.func139, by kernel_rfl, by kernel_rfl, by kernel_rfl⟩

/-- mimesis/mimesisref01.Word -/
abbrev C140_0 := Ro [As 2 (kU 0)]
abbrev C140_1 := Ro [Mv 3 t0,Cv 4 .u64 t3,Bn 5 .rem t4 (kL 4294967296),Cv 6 .u32 t5,As 2 t6]
abbrev C140_2 := Sq [2] C140_1 .ret
abbrev C140_3 := Sq [0] C140_0 C140_2
abbrev C140 := C140_3
abbrev C140r : List RV := [.t 2]
theorem C140ok : Okf Tryz.prog 140 Tryz.f140 C140 C140r := ⟨Tryz.func140, by kernel_rfl, by kernel_rfl, by kernel_rfl⟩

/-- mimesis/mimesisref07.Plain -/
abbrev C141_0 := Ro [As 2 (kI 0)]
abbrev C141_1 := Ro [Mv 3 t0,Ca 4 100 [t3],Un 5 .not t4]
abbrev C141_2 := Ro [As 2 (kI 0)]
abbrev C141_3 := Sq [2] C141_2 .ret
abbrev C141_4 := Cd t5 C141_3 .skip
abbrev C141_5 := Sq [0,5] C141_1 C141_4
abbrev C141_6 := Ro [Mv 6 t0,Bn 7 .leq t6 (kI 27)]
abbrev C141_7 := Ro [⟨(some 8),none,.e (.bsr 9 [zi,zi,zi,zi,zi,zi,zi,zi,zi] [(0,1,(kI 28)),(1,1,(kI 31)),(2,1,(kI 32)),(3,1,(kI 33)),(4,1,(kI 36)),(5,1,(kI 37)),(6,1,(kI 30)),(7,1,(kI 34)),(8,1,(kI 35))])⟩,Mv 9 t0,Bn 10 .sub t9 (kI 19),Ix 11 1 t8 t10,Ld 12 none t11,As 2 t12]
abbrev C141_8 := Sq [2] C141_7 .ret
abbrev C141_9 := Cd t7 C141_8 .skip
abbrev C141_10 := Sq [0,7] C141_6 C141_9
abbrev C141_11 := Ro [Mv 13 t0,As 2 t13]
abbrev C141_12 := Sq [2] C141_11 .ret
abbrev C141_13 := Sq [0] C141_10 C141_12
abbrev C141_14 := Sq [0] C141_5 C141_13
abbrev C141_15 := Sq [0] C141_0 C141_14
abbrev C141 := C141_15
abbrev C141r : List RV := [.t 2]
theorem C141ok : Okf Tryz.prog 141 Tryz.f141 C141 C141r := ⟨Tryz.func141, by kernel_rfl, by kernel_rfl, by kernel_rfl⟩

/-- mimesis/mimesisref07.one -/
abbrev C142_0 := Ro [As 2 (kU 0)]
abbrev C142_1 := Ro [Mv 3 t0]
abbrev C142_2 := Ro [As 2 (kU 1)]
abbrev C142_3 := Sq [2] C142_2 .ret
abbrev C142_4 := Cd t3 C142_3 .skip
abbrev C142_5 := Sq [3] C142_1 C142_4
abbrev C142_6 := Ro [As 2 (kU 0)]
abbrev C142_7 := Sq [2] C142_6 .ret
abbrev C142_8 := Sq [] C142_5 C142_7
abbrev C142_9 := Sq [0] C142_0 C142_8
abbrev C142 := C142_9
abbrev C142r : List RV := [.t 2]
theorem C142ok : Okf Tryz.prog 142 Tryz.f142 C142 C142r := ⟨Tryz.func142, by kernel_rfl, by kernel_rfl, by kernel_rfl⟩

/-- mimesis/mimesisref07.bits -/
abbrev C143_0 := Ro [As 6 (kU 0)]
abbrev C143_1 := Ro [As 7 (kL 0)]
abbrev C143_2 := Ro [As 8 (kI 0)]
abbrev C143_3 := Ro [Mv 10 t8,Bn 11 .lss t10 (kI 32)]
abbrev C143_4 := Cd t11 .skip (.exit 0)
abbrev C143_5 := Sq [0,1,2,7,8,11] C143_3 C143_4
abbrev C143_6 := Ro [Mv 14 t0,Mv 15 t8,Ca 16 137 [t14,t15,(kI 1)],Mv 17 t1,Mv 18 t8,Ca 19 137 [t17,t18,(kI 1)],Bn 20 .add t16 t19,As 9 t20]
abbrev C143_7 := Dr [Mv 21 t7,Mv 22 t2,Mv 23 t9,Ix 24 1 t22 t23,Ld 25 none t24,Mv 26 t8,Ca 27 109 [t26],Bn 28 .mul t25 t27,Bn 29 .add t21 t28,As 7 t29] [[],[],[],[1,2],[3],[],[5],[4,6],[0,7],[8,6,0,1,2,3,4,5,6,7,8]] [(0,[]),(1,[]),(2,[]),(3,[]),(4,[]),(5,[]),(6,[0,1,2,3,4]),(7,[]),(8,[]),(9,[])]
abbrev C143_8 := Sq [0,1,2,7,8,9] C143_6 C143_7
abbrev C143_9 := Bk 1 C143_8
abbrev C143_10 := Ro [Mv 12 t8,Bn 13 .add t12 (kI 1),As 8 t13]
abbrev C143_11 := Sq [0,1,2,7,8] C143_9 C143_10
abbrev C143_12 := Sq [0,1,2,7,8] C143_5 C143_11
abbrev C143_13 : ACode := .loop C143_12
abbrev C143_14 := Bk 0 C143_13
abbrev C143_15 := Sq [0,1,2,7,8] C143_2 C143_14
abbrev C143_16 := Ro [Mv 30 t7,Cv 31 .u32 t30,As 6 t31]
abbrev C143_17 := Sq [6] C143_16 .ret
abbrev C143_18 := Sq [7] C143_15 C143_17
abbrev C143_19 := Sq [0,1,2,7] C143_1 C143_18
abbrev C143_20 := Sq [0,1,2] C143_0 C143_19
abbrev C143 := C143_20
abbrev C143r : List RV := [.t 6]
theorem C143ok : Okf Tryz.prog 143 Tryz.f143 C143 C143r := ⟨Tryz.func143, by kernel_rfl, by kernel_rfl, by kernel_rfl⟩

/-- mimesis/mimesisref07.right -/
abbrev C144_0 := Ro [As 4 (kI 0)]
abbrev C144_1 := Ro [Mv 6 t1,Ca 7 109 [t6],Cv 8 .i64 t7,As 5 t8]
abbrev C144_2 := Ro [Mv 9 t0,Bn 10 .geq t9 (kI 0)]
abbrev C144_3 := Ro [Mv 11 t0,Mv 12 t5,Bn 13 .quo t11 t12,As 4 t13]
abbrev C144_4 := Sq [4] C144_3 .ret
abbrev C144_5 := Cd t10 C144_4 .skip
abbrev C144_6 := Sq [0,5,10] C144_2 C144_5
abbrev C144_7 := Ro [Mv 14 t5,Bn 15 .sub t14 (kI 1),Mv 16 t0,Bn 17 .sub t15 t16,Mv 18 t5,Bn 19 .quo t17 t18,Bn 20 .sub (kI 0) t19,As 4 t20]
abbrev C144_8 := Sq [4] C144_7 .ret
abbrev C144_9 := Sq [0,5] C144_6 C144_8
abbrev C144_10 := Sq [0,5] C144_1 C144_9
abbrev C144_11 := Sq [0,1] C144_0 C144_10
abbrev C144 := C144_11
abbrev C144r : List RV := [.t 4]
theorem C144ok : Okf Tryz.prog 144 Tryz.f144 C144 C144r := ⟨Tryz.func144, by kernel_rfl, by kernel_rfl, by kernel_rfl⟩

/-- mimesis/mimesisref09.Numbers -/
abbrev C145_0 := Ro [As 0 kS]
abbrev C145_1 := Ro [⟨(some 1),none,.e (.bsr 23 [zi,zi,zi,zi,zi,zi,zi,zi,zi,zi,zi,zi,zi,zi,zi,zi,zi,zi,zi,zi,zi,zi,zi] [(0,1,(kI 768)),(1,1,(kI 769)),(2,1,(kI 772)),(3,1,(kI 773)),(4,1,(kI 832)),(5,1,(kI 833)),(6,1,(kI 834)),(7,1,(kI 835)),(8,1,(kI 836)),(9,1,(kI 2816)),(10,1,(kI 2818)),(11,1,(kI 2944)),(12,1,(kI 2946)),(13,1,(kI 3072)),(14,1,(kI 3073)),(15,1,(kI 3074)),(16,1,(kI 3200)),(17,1,(kI 3201)),(18,1,(kI 3202)),(19,1,(kI 3857)),(20,1,(kI 3858)),(21,1,(kI 3859)),(22,1,(kI 3860))])⟩,As 0 t1]
abbrev C145_2 := Sq [0] C145_1 .ret
abbrev C145_3 := Sq [] C145_0 C145_2
abbrev C145 := C145_3
abbrev C145r : List RV := [.t 0]
theorem C145ok : Okf Tryz.prog 145 Tryz.f145 C145 C145r := ⟨Tryz.func145, by kernel_rfl, by kernel_rfl, by kernel_rfl⟩

/-- mimesis/ir.kind -/
abbrev C146_0 := Ro [Br 1 t0,As 2 kF]
abbrev C146_1 := Ro [Fa 4 3 t1,Ld 5 none t4,Cv 6 .i64 t5,As 3 t6]
abbrev C146_2 := Ro [Fa 7 0 t1,Ld 8 none t7]
abbrev C146_3 := Ro [Bn 10 .eql t8 (kI 1),As 9 t10]
abbrev C146_4 := Ro [Mv 11 t3,Bn 12 .geq t11 (kI 1),Mv 13 t12,Mvt 14 13 t3,Bnt 15 13 .leq t14 (kI 31),Pk 16 t13 t15 kF,As 2 t16]
abbrev C146_5 := Sq [2] C146_4 .ret
abbrev C146_6 := Ro [Bn 18 .eql t8 (kI 2),As 17 t18]
abbrev C146_7 := Ro [As 2 kT]
abbrev C146_8 := Sq [2] C146_7 .ret
abbrev C146_9 := Ro [Bn 20 .eql t8 (kI 3),As 19 t20]
abbrev C146_10 := Ro [Mv 21 t3,Ca 22 133 [t21],As 2 t22]
abbrev C146_11 := Sq [2] C146_10 .ret
abbrev C146_12 := Ro [Bn 24 .eql t8 (kI 4),As 23 t24]
abbrev C146_13 := Ro [Mv 25 t3,Ca 26 129 [t25],Bn 27 .gtr t26 (kI 0),As 2 t27]
abbrev C146_14 := Sq [2] C146_13 .ret
abbrev C146_15 := Ro [Bn 29 .eql t8 (kI 5),As 28 t29]
abbrev C146_16 := Ro [Mv 30 t3,Ca 31 132 [t30],Bn 32 .gtr t31 (kI 0),As 2 t32]
abbrev C146_17 := Sq [2] C146_16 .ret
abbrev C146_18 := Ro [Bn 34 .eql t8 (kI 6),As 33 t34]
abbrev C146_19 := Ro [Mv 35 t3,Bn 36 .geq t35 (kI 5),Mv 37 t36,Mvt 38 37 t3,Bnt 39 37 .leq t38 (kI 10),Pk 40 t37 t39 kF,As 2 t40]
abbrev C146_20 := Sq [2] C146_19 .ret
abbrev C146_21 := Cd t33 C146_20 .skip
abbrev C146_22 := Sq [3,33] C146_18 C146_21
abbrev C146_23 := Cd t28 C146_17 C146_22
abbrev C146_24 := Sq [3,8,28] C146_15 C146_23
abbrev C146_25 := Cd t23 C146_14 C146_24
abbrev C146_26 := Sq [3,8,23] C146_12 C146_25
abbrev C146_27 := Cd t19 C146_11 C146_26
abbrev C146_28 := Sq [3,8,19] C146_9 C146_27
abbrev C146_29 := Cd t17 C146_8 C146_28
abbrev C146_30 := Sq [3,8,17] C146_6 C146_29
abbrev C146_31 := Cd t9 C146_5 C146_30
abbrev C146_32 := Sq [3,8,9] C146_3 C146_31
abbrev C146_33 := Bk 0 C146_32
abbrev C146_34 := Sq [3,8] C146_2 C146_33
abbrev C146_35 := Ro [As 2 kF]
abbrev C146_36 := Sq [2] C146_35 .ret
abbrev C146_37 := Sq [] C146_34 C146_36
abbrev C146_38 := Sq [1,3] C146_1 C146_37
abbrev C146_39 := Sq [1] C146_0 C146_38
abbrev C146 := C146_39
abbrev C146r : List RV := [.t 2]
theorem C146ok : Okf Tryz.prog 146 Tryz.f146 C146 C146r := ⟨Tryz.func146, by kernel_rfl, by kernel_rfl, by kernel_rfl⟩

/-- mimesis/ir.named -/
abbrev C147_0 := Ro [Br 1 t0,As 2 kF]
abbrev C147_1 := Ro [Fa 4 0 t1,Ld 5 none t4,Fa 6 3 t1,Ld 7 none t6,⟨(some 8),none,.r (.bld [zi,zi,zi,z4,zi,zi] [(0,1,t5),(3,1,t7)])⟩,Al 3 [zi,zi,zi,z4,zi,zi],Sxn 6 t3 t8]
abbrev C147_2 := Ro [Fa 9 0 t1,Ld 10 none t9]
abbrev C147_3 := Ro [Bn 12 .eql t10 (kI 5),As 11 t12]
abbrev C147_4 := Cd t11 (.exit 1) .skip
abbrev C147_5 := Sq [1,3,10,11] C147_3 C147_4
abbrev C147_6 := Ro [Bn 14 .eql t10 (kI 6),As 13 t14]
abbrev C147_7 := Cd t13 (.exit 2) .skip
abbrev C147_8 := Sq [1,3,10,13] C147_6 C147_7
abbrev C147_9 := Ro [Bn 16 .eql t10 (kI 3),As 15 t16]
abbrev C147_10 := Cd t15 (.exit 3) .skip
abbrev C147_11 := Sq [1,3,10,15] C147_9 C147_10
abbrev C147_12 := Ro [Bn 18 .eql t10 (kI 4),As 17 t18]
abbrev C147_13 := Cd t17 (.exit 4) .skip
abbrev C147_14 := Sq [1,3,17] C147_12 C147_13
abbrev C147_15 := Sq [1,3,10] C147_11 C147_14
abbrev C147_16 := Sq [1,3,10] C147_8 C147_15
abbrev C147_17 := Sq [1,3,10] C147_5 C147_16
abbrev C147_18 := Sq [1,3] C147_17 (.exit 0)
abbrev C147_19 := Bk 1 C147_18
abbrev C147_20 := Ro [Fa 19 5 t1,Ld 20 none t19,Fa 21 5 t3,Sxn 1 t21 t20]
abbrev C147_21 := Sq [1,3] C147_19 C147_20
abbrev C147_22 := Bk 2 C147_21
abbrev C147_23 := Ro [Fa 22 4 t1,Ld 23 none t22,Fa 24 4 t3,Sxn 1 t24 t23]
abbrev C147_24 := Sq [1,3] C147_22 C147_23
abbrev C147_25 := Bk 3 C147_24
abbrev C147_26 := Dr [Fa 25 1 t1,Ld 26 none t25,Fa 27 2 t1,Ld 28 none t27,Fa 29 1 t3,Sxn 1 t29 t26,Fa 30 2 t3,Sxn 1 t30 t28] [[],[0],[],[2],[0,1],[4,1,0,1],[0,1,2,3,4,5],[6,3,5,0,1,2,3,4,5]] [(0,[]),(1,[]),(2,[]),(3,[]),(4,[]),(5,[2,3]),(6,[]),(7,[])]
abbrev C147_27 := Sq [1,3] C147_26 (.exit 0)
abbrev C147_28 := Sq [1,3] C147_25 C147_27
abbrev C147_29 := Bk 4 C147_28
abbrev C147_30 := Dr [Fa 31 1 t1,Ld 32 none t31,Fa 33 4 t1,Ld 34 none t33,Fa 35 1 t3,Sxn 1 t35 t32,Fa 36 4 t3,Sxn 1 t36 t34] [[],[0],[],[2],[0,1],[4,1,0,1],[0,1,2,3,4,5],[6,3,5,0,1,2,3,4,5]] [(0,[]),(1,[]),(2,[]),(3,[]),(4,[]),(5,[2,3]),(6,[]),(7,[])]
abbrev C147_31 := Sq [1,3] C147_30 (.exit 0)
abbrev C147_32 := Sq [1,3] C147_29 C147_31
abbrev C147_33 := Bk 0 C147_32
abbrev C147_34 := Sq [1,3,10] C147_2 C147_33
abbrev C147_35 := Ro [Ld 37 (some 6) t3,Ld 38 (some 6) t1,⟨(some 39),none,.r (.eqa false [.i,.i,.i,.i,.i,.i] t37 t38)⟩,As 2 t39]
abbrev C147_36 := Sq [2] C147_35 .ret
abbrev C147_37 := Sq [1,3] C147_34 C147_36
abbrev C147_38 := Sq [1,3] C147_1 C147_37
abbrev C147_39 := Sq [1] C147_0 C147_38
abbrev C147 := C147_39
abbrev C147r : List RV := [.t 2]
theorem C147ok : Okf Tryz.prog 147 Tryz.f147 C147 C147r := ⟨Tryz.func147, by kernel_rfl, by kernel_rfl, by kernel_rfl⟩

/-- mimesis/ir.Uses -/
abbrev C148_0 := Ro [Br 1 t0,As 2 kS]
abbrev C148_1 := Ro [Fa 3 0 t1,Ld 4 none t3]
abbrev C148_2 := Ro [Bn 6 .eql t4 (kI 3),As 5 t6]
abbrev C148_3 := Ro [Bn 7 .eql t4 (kI 5),As 5 t7]
abbrev C148_4 := Ro [Bn 8 .eql t4 (kI 6),As 5 t8]
abbrev C148_5 := Cd t5 .skip C148_4
abbrev C148_6 := Sq [1,4,5] C148_3 C148_5
abbrev C148_7 := Cd t5 .skip C148_6
abbrev C148_8 := Sq [1,4,5] C148_2 C148_7
abbrev C148_9 := Ro [Fa 9 1 t1,Ld 10 none t9,Fa 11 2 t1,Ld 12 none t11,⟨(some 13),none,.e (.bsr 2 [.int .i64 0,.int .i64 0] [(0,1,t10),(1,1,t12)])⟩,As 2 t13]
abbrev C148_10 := Sq [2] C148_9 .ret
abbrev C148_11 := Ro [Bn 15 .eql t4 (kI 4),As 14 t15]
abbrev C148_12 := Ro [Fa 16 1 t1,Ld 17 none t16,⟨(some 18),none,.e (.bsr 1 [.int .i64 0] [(0,1,t17)])⟩,As 2 t18]
abbrev C148_13 := Sq [2] C148_12 .ret
abbrev C148_14 := Cd t14 C148_13 .skip
abbrev C148_15 := Sq [1,14] C148_11 C148_14
abbrev C148_16 := Cd t5 C148_10 C148_15
abbrev C148_17 := Sq [1,4,5] C148_8 C148_16
abbrev C148_18 := Bk 0 C148_17
abbrev C148_19 := Sq [1,4] C148_1 C148_18
abbrev C148_20 := Ro [As 2 kS]
abbrev C148_21 := Sq [2] C148_20 .ret
abbrev C148_22 := Sq [] C148_19 C148_21
abbrev C148_23 := Sq [1] C148_0 C148_22
abbrev C148 := C148_23
abbrev C148r : List RV := [.t 2]
theorem C148ok : Okf Tryz.prog 148 Tryz.f148 C148 C148r := ⟨Tryz.func148, by kernel_rfl, by kernel_rfl, by kernel_rfl⟩

/-- (mimesis/ir.judge).value -/
abbrev C149_0 := Ro [Br 3 t0,As 6 kF]
abbrev C149_1 := Ro [Mv 7 t1,Bn 8 .geq t7 (kI 0),Mv 9 t8,Mvt 10 9 t1,Mvt 11 9 t2,Bnt 12 9 .lss t10 t11,Pk 13 t9 t12 kF,Mv 14 t13,Mvt 15 14 t1,Fat 16 14 0 t3,Ldt 17 14 none t16,Nct 18 14 t17,Fat 19 14 1 t18,Ldt 20 14 none t19,Lnt 21 14 t20,Bnt 22 14 .lss t15 t21,Pk 23 t14 t22 kF,Mv 24 t23,Fat 25 24 0 t3,Ldt 26 24 none t25,Nct 27 24 t26,Fat 28 24 1 t27,Ldt 29 24 none t28,Mvt 30 24 t1,Ixt 31 24 6 t29 t30,Fat 32 24 0 t31,Ldt 33 24 none t32,Cat 34 24 164 [t33],Pk 35 t24 t34 kF,As 6 t35]
abbrev C149_2 := Sq [6] C149_1 .ret
abbrev C149_3 := Sq [1,2,3] C149_0 C149_2
abbrev C149 := C149_3
abbrev C149r : List RV := [.t 6]
theorem C149ok : Okf Tryz.prog 149 Tryz.f149 C149 C149r := ⟨Tryz.func149, by kernel_rfl, by kernel_rfl, by kernel_rfl⟩

/-- slices.IndexFunc[[]uint32,uint32] -/
abbrev C150_0 := Ro [As 4 (kI 0)]
abbrev C150_1 := Ro [Mv 6 t0,Ln 7 t6,Mv 8 (kI 0)]
abbrev C150_2 := Ro [Bn 9 .lss t8 t7]
abbrev C150_3 := Cd t9 .skip (.exit 0)
abbrev C150_4 := Ro [Mv 10 t8,As 5 t10]
abbrev C150_5 := Ro [Mv 11 t1,Mv 12 t0,Mv 13 t5,Ix 14 1 t12 t13,Ld 15 none t14,⟨(some 16),none,.e (.callv t11 [t15])⟩]
abbrev C150_6 := Ro [Mv 17 t5,As 4 t17]
abbrev C150_7 := Sq [4] C150_6 .ret
abbrev C150_8 := Cd t16 C150_7 .skip
abbrev C150_9 := Sq [0,1,5,7,8,16] C150_5 C150_8
abbrev C150_10 := Sq [0,1,5,7,8] C150_4 C150_9
abbrev C150_11 := Bk 1 C150_10
abbrev C150_12 := Ro [Bn 18 .add t8 (kI 1),Mv 8 t18]
abbrev C150_13 := Sq [0,1,7,8] C150_11 C150_12
abbrev C150_14 := Sq [0,1,7,8] C150_3 C150_13
abbrev C150_15 := Sq [0,1,7,8,9] C150_2 C150_14
abbrev C150_16 : ACode := .loop C150_15
abbrev C150_17 := Bk 0 C150_16
abbrev C150_18 := Sq [0,1,7,8] C150_1 C150_17
abbrev C150_19 := Ro [As 4 (kI (-1))]
abbrev C150_20 := Sq [4] C150_19 .ret
abbrev C150_21 := Sq [] C150_18 C150_20
abbrev C150_22 := Sq [0,1] C150_0 C150_21
abbrev C150 := C150_22
abbrev C150r : List RV := [.t 4]
theorem C150ok : Okf Tryz.prog 150 Tryz.f150 C150 C150r := ⟨Tryz.func150, by kernel_rfl, by kernel_rfl, by kernel_rfl⟩

/-- slices.ContainsFunc[[]mimesis/ir.Val,mimesis/ir.Val] -/
abbrev C151_0 := Ro [As 4 kF]
abbrev C151_1 := Ro [Mv 5 t0,Mv 6 t1,Ca 7 165 [t5,t6],Bn 8 .geq t7 (kI 0),As 4 t8]
abbrev C151_2 := Sq [4] C151_1 .ret
abbrev C151_3 := Sq [0,1] C151_0 C151_2
abbrev C151 := C151_3
abbrev C151r : List RV := [.t 4]
theorem C151ok : Okf Tryz.prog 151 Tryz.f151 C151 C151r := ⟨Tryz.func151, by kernel_rfl, by kernel_rfl, by kernel_rfl⟩

/-- (mimesis/ir.judge).exit$1 -/
abbrev C152_0 := Ro [Br 3 t0,As 4 kF]
abbrev C152_1 := Ro [Ld 5 (some 1) t1,Fa 6 1 t3,Ld 7 none t6,Ld 8 none t2,Ca 9 149 [t5,t7,t8],Un 10 .not t9,As 4 t10]
abbrev C152_2 := Sq [4] C152_1 .ret
abbrev C152_3 := Sq [1,2,3] C152_0 C152_2
abbrev C152 := C152_3
abbrev C152r : List RV := [.t 4]
theorem C152ok : Okf Tryz.prog 152 Tryz.f152 C152 C152r := ⟨Tryz.func152, by kernel_rfl, by kernel_rfl, by kernel_rfl⟩

/-- (*mimesis/ram.Ram).asked -/
abbrev C153_0 := Ro [As 6 (kI 0)]
abbrev C153_1 := Ro [Mv 8 t0,Ep 9 false t8 kP,Mv 10 t9,Mvf 11 10 t2,Bnf 12 10 .neq t11 (kI 1),Mvf 13 10 t12,Mvt 14 13 t2,Bnt 15 13 .neq t14 (kI 2),Pkf 16 10 t13 t15 kF,Mvf 17 10 t16,Mvt 18 17 t2,Bnt 19 17 .neq t18 (kI 4),Pkf 20 10 t17 t19 kF,Pk 21 t10 kT t20,As 7 t21]
abbrev C153_2 := Ro [As 6 (kI 2)]
abbrev C153_3 := Sq [6] C153_2 .ret
abbrev C153_4 := Ro [Mv 23 t1,Mv 24 t2,Cv 25 .u32 t24,Bn 26 .rem t23 t25,Bn 27 .neq t26 (kU 0),As 22 t27]
abbrev C153_5 := Ro [As 6 (kI 5)]
abbrev C153_6 := Sq [6] C153_5 .ret
abbrev C153_7 := Ro [Mv 29 t0,Mv 30 t1,Mv 31 t2,Ca 32 118 [t29,t30,t31],Un 33 .not t32,As 28 t33]
abbrev C153_8 := Ro [As 6 (kI 6)]
abbrev C153_9 := Sq [6] C153_8 .ret
abbrev C153_10 := Cd t28 C153_9 .skip
abbrev C153_11 := Sq [28] C153_7 C153_10
abbrev C153_12 := Cd t22 C153_6 C153_11
abbrev C153_13 := Sq [0,1,2,22] C153_4 C153_12
abbrev C153_14 := Cd t7 C153_3 C153_13
abbrev C153_15 := Sq [0,1,2,7] C153_1 C153_14
abbrev C153_16 := Bk 0 C153_15
abbrev C153_17 := Ro [As 6 (kI 0)]
abbrev C153_18 := Sq [6] C153_17 .ret
abbrev C153_19 := Sq [] C153_16 C153_18
abbrev C153_20 := Sq [0,1,2] C153_0 C153_19
abbrev C153 := C153_20
abbrev C153r : List RV := [.t 6]
theorem C153ok : Okf Tryz.prog 153 Tryz.f153 C153 C153r := ⟨Tryz.func153, by kernel_rfl, by kernel_rfl, by kernel_rfl⟩

/-- mimesis/word.Number -/
abbrev C154_0 := Ro [As 2 (kU 0),As 3 (kI 0)]
abbrev C154_1 := Ro [Mv 6 t0,Ln 7 t6,Ca 8 166 [t7],Un 9 .not t8]
abbrev C154_2 := Ro [As 2 (kU 0),As 3 (kI 4)]
abbrev C154_3 := Sq [2,3] C154_2 .ret
abbrev C154_4 := Cd t9 C154_3 .skip
abbrev C154_5 := Sq [0,9] C154_1 C154_4
abbrev C154_6 := Ro [As 4 (kU 0)]
abbrev C154_7 := Ro [Mv 10 t0,Ln 11 t10,Mv 12 (kI 0)]
abbrev C154_8 := Ro [Bn 13 .lss t12 t11]
abbrev C154_9 := Cd t13 .skip (.exit 0)
abbrev C154_10 := Ro [Mv 14 t12,As 5 t14]
abbrev C154_11 := Ro [Mv 15 t4,Mv 16 t0,Mv 17 t5,Ix 18 1 t16 t17,Ld 19 none t18,Cv 20 .u32 t19,Mv 21 t5,Bn 22 .mul (kI 8) t21,Cv 23 .u64 t22,Bn 24 .shl t20 t23,Bn 25 .or t15 t24,As 4 t25]
abbrev C154_12 := Sq [0,4,5,11,12] C154_10 C154_11
abbrev C154_13 := Bk 1 C154_12
abbrev C154_14 := Ro [Bn 26 .add t12 (kI 1),Mv 12 t26]
abbrev C154_15 := Sq [0,4,11,12] C154_13 C154_14
abbrev C154_16 := Sq [0,4,11,12] C154_9 C154_15
abbrev C154_17 := Sq [0,4,11,12,13] C154_8 C154_16
abbrev C154_18 : ACode := .loop C154_17
abbrev C154_19 := Bk 0 C154_18
abbrev C154_20 := Sq [0,4,11,12] C154_7 C154_19
abbrev C154_21 := Ro [Mv 27 t4,As 2 t27,As 3 (kI 0)]
abbrev C154_22 := Sq [2,3] C154_21 .ret
abbrev C154_23 := Sq [4] C154_20 C154_22
abbrev C154_24 := Sq [0,4] C154_6 C154_23
abbrev C154_25 := Sq [0] C154_5 C154_24
abbrev C154_26 := Sq [0] C154_0 C154_25
abbrev C154 := C154_26
abbrev C154r : List RV := [.t 2,.t 3]
theorem C154ok : Okf Tryz.prog 154 Tryz.f154 C154 C154r := ⟨Tryz.func154, by kernel_rfl, by kernel_rfl, by kernel_rfl⟩

/-- mimesis/word.Bytes -/
abbrev C155_0 := Ro [As 4 kS,As 5 (kI 0)]
abbrev C155_1 := Ro [Mv 8 t1,Ca 9 166 [t8],Un 10 .not t9]
abbrev C155_2 := Ro [As 4 kS,As 5 (kI 4)]
abbrev C155_3 := Sq [4,5] C155_2 .ret
abbrev C155_4 := Cd t10 C155_3 .skip
abbrev C155_5 := Sq [0,1,10] C155_1 C155_4
abbrev C155_6 := Ro [As 6 kS]
abbrev C155_7 := Ro [Mv 11 t1,Mv 12 (kI 0)]
abbrev C155_8 := Ro [Bn 13 .lss t12 t11]
abbrev C155_9 := Cd t13 .skip (.exit 0)
abbrev C155_10 := Ro [Mv 14 t12,As 7 t14]
abbrev C155_11 := Ro [Mv 15 t6,Mv 16 t0,Mv 17 t7,Bn 18 .mul (kI 8) t17,Cv 19 .u64 t18,Bn 20 .shr t16 t19,Cv 21 .u8 t20,⟨(some 22),none,.e (.bsr 1 [.int .u8 0] [(0,1,t21)])⟩,Ap 23 1 1 t15 t22,As 6 t23]
abbrev C155_12 := Sq [0,6,7,11,12] C155_10 C155_11
abbrev C155_13 := Bk 1 C155_12
abbrev C155_14 := Ro [Bn 24 .add t12 (kI 1),Mv 12 t24]
abbrev C155_15 := Sq [0,6,11,12] C155_13 C155_14
abbrev C155_16 := Sq [0,6,11,12] C155_9 C155_15
abbrev C155_17 := Sq [0,6,11,12,13] C155_8 C155_16
abbrev C155_18 : ACode := .loop C155_17
abbrev C155_19 := Bk 0 C155_18
abbrev C155_20 := Sq [0,6,11,12] C155_7 C155_19
abbrev C155_21 := Ro [Mv 25 t6,As 4 t25,As 5 (kI 0)]
abbrev C155_22 := Sq [4,5] C155_21 .ret
abbrev C155_23 := Sq [6] C155_20 C155_22
abbrev C155_24 := Sq [0,1,6] C155_6 C155_23
abbrev C155_25 := Sq [0,1] C155_5 C155_24
abbrev C155_26 := Sq [0,1] C155_0 C155_25
abbrev C155 := C155_26
abbrev C155r : List RV := [.t 4,.t 5]
theorem C155ok : Okf Tryz.prog 155 Tryz.f155 C155 C155r := ⟨Tryz.func155, by kernel_rfl, by kernel_rfl, by kernel_rfl⟩

/-- (*mimesis/ram.Ram).Page -/
abbrev C156_0 := Ro [As 4 (kI 0)]
abbrev C156_1 := Ro [Mv 5 t0,Mv 6 t1,Ca 7 118 [t5,t6,(kI 1)],Un 8 .not t7]
abbrev C156_2 := Ro [As 4 (kI (-1))]
abbrev C156_3 := Sq [4] C156_2 .ret
abbrev C156_4 := Cd t8 C156_3 .skip
abbrev C156_5 := Sq [1,8] C156_1 C156_4
abbrev C156_6 := Ro [Mv 9 t1,Bn 10 .sub t9 (kU 2147483648),Cv 11 .i64 t10,Bn 12 .quo t11 (kI 64),As 4 t12]
abbrev C156_7 := Sq [4] C156_6 .ret
abbrev C156_8 := Sq [1] C156_5 C156_7
abbrev C156_9 := Sq [0,1] C156_0 C156_8
abbrev C156 := C156_9
abbrev C156r : List RV := [.t 4]
theorem C156ok : Okf Tryz.prog 156 Tryz.f156 C156 C156r := ⟨Tryz.func156, by kernel_rfl, by kernel_rfl, by kernel_rfl⟩

/-- mimesis/alu.Has -/
abbrev C157_0 := Ro [As 2 kF]
abbrev C157_1 := Ro [Mv 3 t0,Bn 4 .geq t3 (kI 19),Mv 5 t4,Mvt 6 5 t0,Bnt 7 5 .leq t6 (kI 37),Pk 8 t5 t7 kF,As 2 t8]
abbrev C157_2 := Sq [2] C157_1 .ret
abbrev C157_3 := Sq [0] C157_0 C157_2
abbrev C157 := C157_3
abbrev C157r : List RV := [.t 2]
theorem C157ok : Okf Tryz.prog 157 Tryz.f157 C157 C157r := ⟨Tryz.func157, by kernel_rfl, by kernel_rfl, by kernel_rfl⟩

/-- mimesis/muldiv.Has -/
abbrev C158_0 := Ro [As 2 kF]
abbrev C158_1 := Ro [Mv 3 t0,Bn 4 .geq t3 (kI 50),Mv 5 t4,Mvt 6 5 t0,Bnt 7 5 .leq t6 (kI 57),Pk 8 t5 t7 kF,As 2 t8]
abbrev C158_2 := Sq [2] C158_1 .ret
abbrev C158_3 := Sq [0] C158_0 C158_2
abbrev C158 := C158_3
abbrev C158r : List RV := [.t 2]
theorem C158ok : Okf Tryz.prog 158 Tryz.f158 C158 C158r := ⟨Tryz.func158, by kernel_rfl, by kernel_rfl, by kernel_rfl⟩

/-- mimesis/alu.Plain -/
abbrev C159_0 := Ro [As 2 (kI 0)]
abbrev C159_1 := Ro [Mv 3 t0]
abbrev C159_2 := Ro [Bn 5 .eql t3 (kI 19),As 4 t5]
abbrev C159_3 := Ro [As 2 (kI 28)]
abbrev C159_4 := Sq [2] C159_3 .ret
abbrev C159_5 := Ro [Bn 7 .eql t3 (kI 20),As 6 t7]
abbrev C159_6 := Ro [As 2 (kI 31)]
abbrev C159_7 := Sq [2] C159_6 .ret
abbrev C159_8 := Ro [Bn 9 .eql t3 (kI 21),As 8 t9]
abbrev C159_9 := Ro [As 2 (kI 32)]
abbrev C159_10 := Sq [2] C159_9 .ret
abbrev C159_11 := Ro [Bn 11 .eql t3 (kI 22),As 10 t11]
abbrev C159_12 := Ro [As 2 (kI 33)]
abbrev C159_13 := Sq [2] C159_12 .ret
abbrev C159_14 := Ro [Bn 13 .eql t3 (kI 23),As 12 t13]
abbrev C159_15 := Ro [As 2 (kI 36)]
abbrev C159_16 := Sq [2] C159_15 .ret
abbrev C159_17 := Ro [Bn 15 .eql t3 (kI 24),As 14 t15]
abbrev C159_18 := Ro [As 2 (kI 37)]
abbrev C159_19 := Sq [2] C159_18 .ret
abbrev C159_20 := Ro [Bn 17 .eql t3 (kI 25),As 16 t17]
abbrev C159_21 := Ro [As 2 (kI 30)]
abbrev C159_22 := Sq [2] C159_21 .ret
abbrev C159_23 := Ro [Bn 19 .eql t3 (kI 26),As 18 t19]
abbrev C159_24 := Ro [As 2 (kI 34)]
abbrev C159_25 := Sq [2] C159_24 .ret
abbrev C159_26 := Ro [Bn 21 .eql t3 (kI 27),As 20 t21]
abbrev C159_27 := Ro [As 2 (kI 35)]
abbrev C159_28 := Sq [2] C159_27 .ret
abbrev C159_29 := Cd t20 C159_28 .skip
abbrev C159_30 := Sq [0,20] C159_26 C159_29
abbrev C159_31 := Cd t18 C159_25 C159_30
abbrev C159_32 := Sq [0,3,18] C159_23 C159_31
abbrev C159_33 := Cd t16 C159_22 C159_32
abbrev C159_34 := Sq [0,3,16] C159_20 C159_33
abbrev C159_35 := Cd t14 C159_19 C159_34
abbrev C159_36 := Sq [0,3,14] C159_17 C159_35
abbrev C159_37 := Cd t12 C159_16 C159_36
abbrev C159_38 := Sq [0,3,12] C159_14 C159_37
abbrev C159_39 := Cd t10 C159_13 C159_38
abbrev C159_40 := Sq [0,3,10] C159_11 C159_39
abbrev C159_41 := Cd t8 C159_10 C159_40
abbrev C159_42 := Sq [0,3,8] C159_8 C159_41
abbrev C159_43 := Cd t6 C159_7 C159_42
abbrev C159_44 := Sq [0,3,6] C159_5 C159_43
abbrev C159_45 := Cd t4 C159_4 C159_44
abbrev C159_46 := Sq [0,3,4] C159_2 C159_45
abbrev C159_47 := Bk 0 C159_46
abbrev C159_48 := Sq [0,3] C159_1 C159_47
abbrev C159_49 := Ro [Mv 22 t0,Ca 23 157 [t22]]
abbrev C159_50 := Ro [Mv 24 t0,As 2 t24]
abbrev C159_51 := Sq [2] C159_50 .ret
abbrev C159_52 := Cd t23 C159_51 .skip
abbrev C159_53 := Sq [0,23] C159_49 C159_52
abbrev C159_54 := Ro [As 2 (kI 0)]
abbrev C159_55 := Sq [2] C159_54 .ret
abbrev C159_56 := Sq [] C159_53 C159_55
abbrev C159_57 := Sq [0] C159_48 C159_56
abbrev C159_58 := Sq [0] C159_0 C159_57
abbrev C159 := C159_58
abbrev C159r : List RV := [.t 2]
theorem C159ok : Okf Tryz.prog 159 Tryz.f159 C159 C159r := ⟨Tryz.func159, by kernel_rfl, by kernel_rfl, by kernel_rfl⟩

/-- mimesis/alu.one -/
abbrev C160_0 := Ro [As 2 (kU 0)]
abbrev C160_1 := Ro [Mv 3 t0]
abbrev C160_2 := Ro [As 2 (kU 1)]
abbrev C160_3 := Sq [2] C160_2 .ret
abbrev C160_4 := Cd t3 C160_3 .skip
abbrev C160_5 := Sq [3] C160_1 C160_4
abbrev C160_6 := Ro [As 2 (kU 0)]
abbrev C160_7 := Sq [2] C160_6 .ret
abbrev C160_8 := Sq [] C160_5 C160_7
abbrev C160_9 := Sq [0] C160_0 C160_8
abbrev C160 := C160_9
abbrev C160r : List RV := [.t 2]
theorem C160ok : Okf Tryz.prog 160 Tryz.f160 C160 C160r := ⟨Tryz.func160, by kernel_rfl, by kernel_rfl, by kernel_rfl⟩

/-- mimesis/muldiv.upper -/
abbrev C161_0 := Ro [As 8 (kU 0)]
abbrev C161_1 := Ro [Mv 12 t0,Mv 13 t1,Ca 14 167 [t12,t13],Mv 11 t14,Ex 15 0 t11,Ex 16 1 t11,As 9 t15,As 10 t16]
abbrev C161_2 := Ro [Mv 17 t2,Mv 18 t17,Mvt 19 18 t0,Cat 20 18 168 [t19],Pk 21 t18 t20 kF]
abbrev C161_3 := Ro [Mv 22 t9,Mv 23 t1,Bn 24 .sub t22 t23,As 9 t24]
abbrev C161_4 := Cd t21 C161_3 .skip
abbrev C161_5 := Sq [0,1,3,9,21] C161_2 C161_4
abbrev C161_6 := Ro [Mv 25 t3,Mv 26 t25,Mvt 27 26 t1,Cat 28 26 168 [t27],Pk 29 t26 t28 kF]
abbrev C161_7 := Ro [Mv 30 t9,Mv 31 t0,Bn 32 .sub t30 t31,As 9 t32]
abbrev C161_8 := Cd t29 C161_7 .skip
abbrev C161_9 := Sq [0,9,29] C161_6 C161_8
abbrev C161_10 := Ro [Mv 33 t9,As 8 t33]
abbrev C161_11 := Sq [8] C161_10 .ret
abbrev C161_12 := Sq [9] C161_9 C161_11
abbrev C161_13 := Sq [0,1,3,9] C161_5 C161_12
abbrev C161_14 := Sq [0,1,2,3,9] C161_1 C161_13
abbrev C161_15 := Sq [0,1,2,3] C161_0 C161_14
abbrev C161 := C161_15
abbrev C161r : List RV := [.t 8]
theorem C161ok : Okf Tryz.prog 161 Tryz.f161 C161 C161r := ⟨Tryz.func161, by kernel_rfl, by kernel_rfl, by kernel_rfl⟩

/-- mimesis/muldiv.quotient -/
abbrev C162_0 := Ro [As 6 (kU 0),As 7 (kU 0)]
abbrev C162_1 := Ro [Mv 9 t1,Bn 10 .eql t9 (kU 0),As 8 t10]
abbrev C162_2 := Ro [Mv 11 t0,As 6 (kU 4294967295),As 7 t11]
abbrev C162_3 := Sq [6,7] C162_2 .ret
abbrev C162_4 := Ro [Mv 13 t2,As 12 t13]
abbrev C162_5 := Ro [Mv 14 t0,Mv 15 t1,Ca 16 169 [t14,t15],Ex 17 0 t16,Ex 18 1 t16,As 6 t17,As 7 t18]
abbrev C162_6 := Sq [6,7] C162_5 .ret
abbrev C162_7 := Cd t12 C162_6 .skip
abbrev C162_8 := Sq [0,1,12] C162_4 C162_7
abbrev C162_9 := Cd t8 C162_3 C162_8
abbrev C162_10 := Sq [0,1,2,8] C162_1 C162_9
abbrev C162_11 := Bk 0 C162_10
abbrev C162_12 := Dr [Mv 19 t0,Mv 20 t1,Bn 21 .quo t19 t20,Mv 22 t0,Mv 23 t1,Bn 24 .rem t22 t23,As 6 t21,As 7 t24] [[],[],[0,1],[],[],[3,4],[2,0,1,2],[5,6,0,1,2,3,4,5,6]] [(0,[]),(1,[]),(2,[]),(3,[]),(4,[]),(5,[]),(6,[3,4,5]),(7,[])]
abbrev C162_13 := Sq [6,7] C162_12 .ret
abbrev C162_14 := Sq [0,1] C162_11 C162_13
abbrev C162_15 := Sq [0,1,2] C162_0 C162_14
abbrev C162 := C162_15
abbrev C162r : List RV := [.t 6,.t 7]
theorem C162ok : Okf Tryz.prog 162 Tryz.f162 C162 C162r := ⟨Tryz.func162, by kernel_rfl, by kernel_rfl, by kernel_rfl⟩

/-- mimesis/mimesisref13.Now -/
abbrev C163_0 := Ro [Br 2 t0,As 4 (kL 0)]
abbrev C163_1 := Ro [Mv 5 t1,Fa 6 0 t2,Ld 7 none t6,Bn 8 .add t5 t7,As 4 t8]
abbrev C163_2 := Sq [4] C163_1 .ret
abbrev C163_3 := Sq [1,2] C163_0 C163_2
abbrev C163 := C163_3
abbrev C163r : List RV := [.t 4]
theorem C163ok : Okf Tryz.prog 163 Tryz.f163 C163 C163r := ⟨Tryz.func163, by kernel_rfl, by kernel_rfl, by kernel_rfl⟩

/-- mimesis/ir.Valued -/
abbrev C164_0 := Ro [As 2 kF]
abbrev C164_1 := Ro [Mv 3 t0,Bn 4 .geq t3 (kI 1),Mv 5 t4,Mvt 6 5 t0,Bnt 7 5 .leq t6 (kI 4),Pk 8 t5 t7 kF,As 2 t8]
abbrev C164_2 := Sq [2] C164_1 .ret
abbrev C164_3 := Sq [0] C164_0 C164_2
abbrev C164 := C164_3
abbrev C164r : List RV := [.t 2]
theorem C164ok : Okf Tryz.prog 164 Tryz.f164 C164 C164r := ⟨Tryz.func164, by kernel_rfl, by kernel_rfl, by kernel_rfl⟩

/-- slices.IndexFunc[[]mimesis/ir.Val,mimesis/ir.Val] -/
abbrev C165_0 := Ro [As 4 (kI 0)]
abbrev C165_1 := Ro [Mv 6 t0,Ln 7 t6,Mv 8 (kI 0)]
abbrev C165_2 := Ro [Bn 9 .lss t8 t7]
abbrev C165_3 := Cd t9 .skip (.exit 0)
abbrev C165_4 := Ro [Mv 10 t8,As 5 t10]
abbrev C165_5 := Ro [Mv 11 t1,Mv 12 t0,Mv 13 t5,Ix 14 2 t12 t13,Ld 15 (some 2) t14,⟨(some 16),none,.e (.callv t11 [t15])⟩]
abbrev C165_6 := Ro [Mv 17 t5,As 4 t17]
abbrev C165_7 := Sq [4] C165_6 .ret
abbrev C165_8 := Cd t16 C165_7 .skip
abbrev C165_9 := Sq [0,1,5,7,8,16] C165_5 C165_8
abbrev C165_10 := Sq [0,1,5,7,8] C165_4 C165_9
abbrev C165_11 := Bk 1 C165_10
abbrev C165_12 := Ro [Bn 18 .add t8 (kI 1),Mv 8 t18]
abbrev C165_13 := Sq [0,1,7,8] C165_11 C165_12
abbrev C165_14 := Sq [0,1,7,8] C165_3 C165_13
abbrev C165_15 := Sq [0,1,7,8,9] C165_2 C165_14
abbrev C165_16 : ACode := .loop C165_15
abbrev C165_17 := Bk 0 C165_16
abbrev C165_18 := Sq [0,1,7,8] C165_1 C165_17
abbrev C165_19 := Ro [As 4 (kI (-1))]
abbrev C165_20 := Sq [4] C165_19 .ret
abbrev C165_21 := Sq [] C165_18 C165_20
abbrev C165_22 := Sq [0,1] C165_0 C165_21
abbrev C165 := C165_22
abbrev C165r : List RV := [.t 4]
theorem C165ok : Okf Tryz.prog 165 Tryz.f165 C165 C165r := ⟨Tryz.func165, by kernel_rfl, by kernel_rfl, by kernel_rfl⟩

/-- mimesis/word.width -/
abbrev C166_0 := Ro [As 2 kF]
abbrev C166_1 := Ro [Mv 3 t0,Bn 4 .eql t3 (kI 1),Mv 5 t4,Mvf 6 5 t0,Bnf 7 5 .eql t6 (kI 2),Pk 8 t5 kT t7,Mv 9 t8,Mvf 10 9 t0,Bnf 11 9 .eql t10 (kI 4),Pk 12 t9 kT t11,As 2 t12]
abbrev C166_2 := Sq [2] C166_1 .ret
abbrev C166_3 := Sq [0] C166_0 C166_2
abbrev C166 := C166_3
abbrev C166r : List RV := [.t 2]
theorem C166ok : Okf Tryz.prog 166 Tryz.f166 C166 C166r := ⟨Tryz.func166, by kernel_rfl, by kernel_rfl, by kernel_rfl⟩

/-- mimesis/muldiv.Wide -/
abbrev C167_0 := Ro [As 4 (kU 0),As 5 (kU 0)]
abbrev C167_1 := Ro [Mv 13 t0,Bn 14 .shr t13 (kL 16),Mv 15 t0,Bn 16 .and t15 (kU 65535),As 6 t14,As 7 t16]
abbrev C167_2 := Ro [Mv 17 t1,Bn 18 .shr t17 (kL 16),Mv 19 t1,Bn 20 .and t19 (kU 65535),As 8 t18,As 9 t20]
abbrev C167_3 := Ro [Mv 21 t7,Mv 22 t9,Bn 23 .mul t21 t22,As 10 t23]
abbrev C167_4 := Ro [Mv 24 t6,Mv 25 t9,Bn 26 .mul t24 t25,Mv 27 t10,Bn 28 .shr t27 (kL 16),Bn 29 .add t26 t28,As 11 t29]
abbrev C167_5 := Ro [Mv 30 t7,Mv 31 t8,Bn 32 .mul t30 t31,Mv 33 t11,Bn 34 .and t33 (kU 65535),Bn 35 .add t32 t34,As 12 t35]
abbrev C167_6 := Ro [Mv 36 t6,Mv 37 t8,Bn 38 .mul t36 t37,Mv 39 t11,Bn 40 .shr t39 (kL 16),Bn 41 .add t38 t40,Mv 42 t12,Bn 43 .shr t42 (kL 16),Bn 44 .add t41 t43,Mv 45 t0,Mv 46 t1,Bn 47 .mul t45 t46,As 4 t44,As 5 t47]
abbrev C167_7 := Sq [4,5] C167_6 .ret
abbrev C167_8 := Sq [0,1,6,8,11,12] C167_5 C167_7
abbrev C167_9 := Sq [0,1,6,7,8,11] C167_4 C167_8
abbrev C167_10 := Sq [0,1,6,7,8,9,10] C167_3 C167_9
abbrev C167_11 := Sq [0,1,6,7,8,9] C167_2 C167_10
abbrev C167_12 := Sq [0,1,6,7] C167_1 C167_11
abbrev C167_13 := Sq [0,1] C167_0 C167_12
abbrev C167 := C167_13
abbrev C167r : List RV := [.t 4,.t 5]
theorem C167ok : Okf Tryz.prog 167 Tryz.f167 C167 C167r := ⟨Tryz.func167, by kernel_rfl, by kernel_rfl, by kernel_rfl⟩

/-- mimesis/muldiv.negative -/
abbrev C168_0 := Ro [As 2 kF]
abbrev C168_1 := Ro [Mv 3 t0,Bn 4 .shr t3 (kL 31),Bn 5 .eql t4 (kU 1),As 2 t5]
abbrev C168_2 := Sq [2] C168_1 .ret
abbrev C168_3 := Sq [0] C168_0 C168_2
abbrev C168 := C168_3
abbrev C168r : List RV := [.t 2]
theorem C168ok : Okf Tryz.prog 168 Tryz.f168 C168 C168r := ⟨Tryz.func168, by kernel_rfl, by kernel_rfl, by kernel_rfl⟩

/-- mimesis/muldiv.divided -/
abbrev C169_0 := Ro [⟨(some 2),none,.e (.box t0)⟩,⟨(some 3),none,.e (.box t1)⟩,Al 4 [.int .u32 0],Al 5 [.int .u32 0]]
abbrev C169_1 := Dr [Ld 7 none t2,Ca 8 171 [t7],Ld 9 none t3,Ca 10 171 [t9],Bn 11 .quo t8 t10,Ld 12 none t2,Ca 13 171 [t12],Ld 14 none t3,Ca 15 171 [t14],Bn 16 .rem t13 t15,Sxn 1 t4 t11,Sxn 1 t5 t16] [[],[0],[],[2,1],[1,3],[],[5,3],[],[7,6],[6,8],[4,8,0,1,2,3,4],[9,10,0,1,2,3,4,5,6,7,8,9,10]] [(0,[]),(2,[]),(5,[]),(7,[]),(1,[2,5,7]),(3,[5,7]),(4,[]),(6,[7,4]),(8,[4]),(9,[]),(10,[9]),(11,[])]
abbrev C169_2 := Sq [4,5] C169_1 .ret
abbrev C169x : ACode := C169_0
abbrev C169 := C169_2
abbrev C169r : List RV := [.c 4 none,.c 5 none]
abbrev C169d : Nat × Nat × List Operand := (6,170,[t2,t3,t4,t5]) -- .mkf 170
theorem C169ok : Okd Tryz.prog 169 Tryz.f169 C169x C169d C169 C169r := ⟨Tryz.func169, by kernel_rfl, by kernel_rfl, by kernel_rfl, by kernel_rfl⟩

/-- mimesis/muldiv.divided$1 -/
abbrev C170_0 := Dr [Ld 4 none t0,Ca 5 168 [t4],Ld 6 none t1,Ca 7 168 [t6],⟨(some 8),none,.r (.eqb true t5 t7)⟩] [[],[0],[],[2,1],[1,3]] [(0,[]),(2,[]),(1,[2]),(3,[]),(4,[])]
abbrev C170_1 := Ro [Ld 9 none t2,Un 10 .neg t9,Sxn 1 t2 t10]
abbrev C170_2 := Cd t8 C170_1 .skip
abbrev C170_3 := Sq [0,2,3,8] C170_0 C170_2
abbrev C170_4 := Ro [Ld 11 none t0,Ca 12 168 [t11]]
abbrev C170_5 := Ro [Ld 13 none t3,Un 14 .neg t13,Sxn 1 t3 t14]
abbrev C170_6 := Cd t12 C170_5 .skip
abbrev C170_7 := Sq [3,12] C170_4 C170_6
abbrev C170_8 := Sq [0,3] C170_3 C170_7
abbrev C170 := C170_8
abbrev C170r : List RV := []
theorem C170ok : Okf Tryz.prog 170 Tryz.f170 C170 C170r := ⟨Tryz.func170, by kernel_rfl, by kernel_rfl, by kernel_rfl⟩

/-- mimesis/muldiv.size -/
abbrev C171_0 := Ro [As 2 (kU 0)]
abbrev C171_1 := Ro [Mv 3 t0,Ca 4 168 [t3]]
abbrev C171_2 := Ro [Mv 5 t0,Un 6 .neg t5,As 2 t6]
abbrev C171_3 := Sq [2] C171_2 .ret
abbrev C171_4 := Cd t4 C171_3 .skip
abbrev C171_5 := Sq [0,4] C171_1 C171_4
abbrev C171_6 := Ro [Mv 7 t0,As 2 t7]
abbrev C171_7 := Sq [2] C171_6 .ret
abbrev C171_8 := Sq [0] C171_5 C171_7
abbrev C171_9 := Sq [0] C171_0 C171_8
abbrev C171 := C171_9
abbrev C171r : List RV := [.t 2]
theorem C171ok : Okf Tryz.prog 171 Tryz.f171 C171 C171r := ⟨Tryz.func171, by kernel_rfl, by kernel_rfl, by kernel_rfl⟩
end Go.Ab
end
section
/- Contracts of packages word, mimesisref01: bytes of words. -/
set_option linter.unusedSimpArgs false
set_option linter.unusedVariables false
namespace Go.Ab
open Go.Proofs
variable {G : Glo} {h : Heap}
theorem width_spec (n : Int) : Spec Tryz.prog G 166 [.int .i64 n] h (Is (.bool (n == 1 || n == 2 || n == 4)) h) := by
  refine Spec.is C166ok rfl ?_
  simp only [push_cast, simprocAttr]
theorem Le.tup1 {r r' : AV} {h h' : Heap} {k : IntKind} {x : Int} (hl : Le r h r' h') : Le (.tup [r, .int k x]) h (.tup [r', .int k x]) h' := by
  intro w v hw hr
  obtain ⟨cs, rfl, hl1, hr1⟩ := rep_tup hr
  obtain ⟨a, b, rfl⟩ : ∃ a b, cs = #[a, b] := by
    match cs, hl1 with
    | ⟨[a, b]⟩, _ => exact ⟨a, b, rfl⟩
  obtain ⟨x1, x2, x3⟩ := hl w a hw (hr1 0 r a rfl rfl)
  refine ⟨x1, .tup _ _ rfl fun i u c h1 h2 => ?_, x3⟩
  match i with
  | 0 => simp at h1 h2; subst h1; subst h2; exact x2
  | 1 =>
    simp at h1 h2; subst h1; subst h2
    have := hr1 1 (.int k x) b rfl rfl
    rw [rep_int this]; exact .int _ _
  | i + 2 => simp at h1
theorem Bytes_spec (w : BitVec 32) (n : Nat) (hn : n = 1 ∨ n = 2 ∨ n = 4) : Spec Tryz.prog G 155 [.int .u32 w.toNat, .int .i64 n] h (Is (.tup [byt (leB w n), .int .i64 0]) h) := by
  refine Spec.weak (Q := fun r h' => ∃ v, r = .tup [v, .int .i64 0] ∧ Own 1 h v (bys (leB w n)) n h') ?_ ?_
  · refine Spec.walk C155ok rfl ?_
    simp only [push_cast, simprocAttr]
    refine (width_spec n).to ?_
    have hb : ((n : Int) == 1 || (n : Int) == 2 || (n : Int) == 4) = true := by rcases hn with rfl | rfl | rfl <;> rfl
    simp only [push_cast, simprocAttr, hb]
    refine lpc.rel [0, 6, 11, 12] (fun m ρ h' => ∃ k v, m = n - k ∧ k ≤ n ∧ Own 1 h v (bys (leB w k)) k h' ∧ ρ = [(0, .int .u32 w.toNat), (6, v), (11, .int .i64 n), (12, .int .i64 k)]) ⟨n, 0, .nils, rfl, by omega, .nil, rfl⟩ ?_
    rintro m _ h' ⟨k, v, rfl, hk, ho, rfl⟩
    simp only [push_cast, simprocAttr]
    refine ⟨fun hk2 => ?_, fun hk2 => ?_⟩
    · have e8 : (8 * (k : Int)).toNat = 8 * k := by omega
      simp (disch := omega) only [push_cast, simprocAttr, wrap_i64, toNat_ofInt64, Nat.min_eq_left, Int.toNat_of_nonneg, e8]
      refine ho.app (m := 1) rfl (by omega) (by omega) fun v' h2 ho2 => ?_
      simp (disch := omega) only [push_cast, simprocAttr, wrap_i64, toNat_ofInt64, Nat.min_eq_left, Int.toNat_of_nonneg]
      exact ⟨_, _, by omega, .refl _, k + 1, v', rfl, by omega, by rw [leB_succ, bys_app]; exact ho2, rfl⟩
    · obtain rfl : k = n := by omega
      exact ⟨_, rfl, ho⟩
  · rintro _ h' ⟨v, rfl, ho⟩
    exact ⟨_, _, ⟨rfl, rfl⟩, by
      have := ho.freeze
      have := Le.tup1 (k := .i64) (x := 0) this
      simpa [byt, leB] using this⟩
/-- 2 to the power of n. -/
theorem Power_spec (n : Nat) (hn : n ≤ 63) : Spec Tryz.prog G 109 [.int .i64 n] h (Is (.int .u64 ((2 ^ n : Nat) : Int)) h) := by
  refine Spec.is C109ok rfl ?_
  simp only [push_cast, simprocAttr]
  refine lpc.rel [0, 3, 4] (fun m ρ h' => ∃ k, m = n - k ∧ k ≤ n ∧ h' = h ∧ ρ = [(0, .int .i64 n), (3, .int .u64 ((2 ^ k : Nat) : Int)), (4, .int .i64 k)]) ⟨n, 0, rfl, by omega, rfl, rfl⟩ ?_
  rintro m _ _ ⟨k, rfl, hk, rfl, rfl⟩
  simp only [push_cast, simprocAttr]
  refine ⟨fun hk2 => ?_, fun hk2 => ?_⟩
  · have e : (BitVec.ofInt 64 (2 ^ k * 2)).toNat = 2 ^ (k + 1) := by
      have : 2 ^ (k + 1) ≤ 2 ^ 63 := Nat.pow_le_pow_right (by omega) (by omega)
      have e2 : ((2 : Int) ^ k * 2) = ((2 ^ (k + 1) : Nat) : Int) := by push_cast; rw [Int.pow_succ]
      rw [e2, BitVec.ofInt_natCast, BitVec.toNat_ofNat, Nat.mod_eq_of_lt (by omega)]
    simp (disch := omega) only [push_cast, simprocAttr, wrap_i64, toNat_ofInt64, Nat.min_eq_left, Int.toNat_of_nonneg, e]
    exact ⟨_, _, by omega, .refl _, k + 1, rfl, by omega, rfl, by push_cast; rfl⟩
  · obtain rfl : k = n := by omega
    trivial
theorem rBytes_spec (w : BitVec 32) (n : Nat) (hn : n ≤ 4) : Spec Tryz.prog G 110 [.int .u32 w.toNat, .int .i64 n] h (Is (byt (leB w n)) h) := by
  refine Spec.weak (Q := fun r h' => Own 1 h r (bys (leB w n)) n h') ?_ ?_
  · refine Spec.walk C110ok rfl ?_
    simp only [push_cast, simprocAttr]
    intro b hb
    refine lpc.rel [0, 1, 5, 6] (fun m ρ h' => ∃ k v, m = n - k ∧ k ≤ n ∧ Own 1 h v (bys (leB w k)) k h' ∧ ρ = [(0, .int .u32 w.toNat), (1, .int .i64 n), (5, v), (6, .int .i64 k)]) ⟨n, 0, .sl b 0 0 0, rfl, by omega, .row b 0 0 [] [] 0 hb rfl (by omega), rfl⟩ ?_
    rintro m _ h' ⟨k, v, rfl, hk, ho, rfl⟩
    simp only [push_cast, simprocAttr]
    refine ⟨fun hk2 => ?_, fun hk2 => ?_⟩
    · simp (disch := omega) only [push_cast, simprocAttr, wrap_i64, toNat_ofInt64, Nat.min_eq_left, Int.toNat_of_nonneg]
      refine (Power_spec (8 * k) (by omega)).to ?_
      have hp : 0 < 2 ^ (8 * k) := Nat.two_pow_pos _
      simp (disch := omega) only [push_cast, simprocAttr, wrap_i64, toNat_ofInt64, Nat.min_eq_left, Int.toNat_of_nonneg]
      refine ho.app (m := 1) rfl (by omega) (by omega) fun v' h2 ho2 => ?_
      simp (disch := omega) only [push_cast, simprocAttr, wrap_i64, toNat_ofInt64, Nat.min_eq_left, Int.toNat_of_nonneg]
      exact ⟨_, _, by omega, .refl _, k + 1, v', rfl, by omega, by rw [leB_succ, bys_app]; exact ho2, rfl⟩
    · obtain rfl : k = n := by omega
      exact ho
  · rintro _ h' ho
    exact ⟨_, _, ⟨rfl, rfl⟩, by simpa [byt, leB] using ho.freeze⟩
theorem leN_take (bs : List (BitVec 8)) (k : Nat) (hk : k < bs.length) : leN (bs.take (k + 1)) = leN (bs.take k) + 256 ^ k * (bs.getD k 0#8).toNat := by
  rw [List.take_add_one, List.getElem?_eq_getElem hk, leN_app]
  simp [leN, Nat.min_eq_left (Nat.le_of_lt hk), hk]
theorem pow256 (k : Nat) : 256 ^ k = 2 ^ (8 * k) := by rw [Nat.pow_mul]
theorem Number_spec (bs : List (BitVec 8)) (hn : bs.length = 1 ∨ bs.length = 2 ∨ bs.length = 4) : Spec Tryz.prog G 154 [byt bs] h (Is (.tup [.int .u32 (BitVec.ofNat 32 (leN bs)).toNat, .int .i64 0]) h) := by
  refine Spec.is C154ok rfl ?_
  simp only [push_cast, simprocAttr, byt]
  refine (width_spec bs.length).to ?_
  have hb : ((bs.length : Int) == 1 || (bs.length : Int) == 2 || (bs.length : Int) == 4) = true := by rcases hn with h | h | h <;> rw [h] <;> rfl
  simp only [push_cast, simprocAttr, hb]
  refine lpc.rel [0, 4, 11, 12] (fun m ρ h' => ∃ k, m = bs.length - k ∧ k ≤ bs.length ∧ h' = h ∧ ρ = [(0, byt bs), (4, .int .u32 (BitVec.ofNat 32 (leN (bs.take k))).toNat), (11, .int .i64 bs.length), (12, .int .i64 k)]) ⟨bs.length, 0, rfl, by omega, rfl, rfl⟩ ?_
  rintro m _ _ ⟨k, rfl, hk, rfl, rfl⟩
  simp only [push_cast, simprocAttr, byt]
  refine ⟨fun hk2 => ?_, fun hk2 => ?_⟩
  · have e8 : (8 * (k : Int)).toNat = 8 * k := by omega
    simp (disch := omega) only [push_cast, simprocAttr, wrap_i64, toNat_ofInt64, Nat.min_eq_left, Int.toNat_of_nonneg, e8, hk2]
    have e : BitVec.ofNat 32 (leN (bs.take k)) ||| BitVec.setWidth 32 (bs.getD k 0#8) <<< (8 * k) = BitVec.ofNat 32 (leN (bs.take (k + 1))) := by
      have h1 : BitVec.setWidth 32 (bs.getD k 0#8) = BitVec.ofNat 32 (bs.getD k 0#8).toNat := by rw [BitVec.ofNat_toNat]
      have h2 := leN_lt (bs.take k)
      rw [List.length_take, Nat.min_eq_left hk, pow256] at h2
      rw [h1, or_shl _ _ _ h2, leN_take bs k hk2, pow256]
    rw [e]
    exact ⟨_, _, by omega, .refl _, k + 1, rfl, by omega, rfl, rfl⟩
  · obtain rfl : k = bs.length := by omega
    simp
theorem rNumber_spec (bs : List (BitVec 8)) (hn : bs.length ≤ 4) : Spec Tryz.prog G 108 [byt bs] h (Is (.int .u32 (BitVec.ofNat 32 (leN bs)).toNat) h) := by
  refine Spec.is C108ok rfl ?_
  simp only [push_cast, simprocAttr, byt]
  refine lpc.rel [0, 3, 4] (fun m ρ h' => ∃ k, m = bs.length - k ∧ k ≤ bs.length ∧ h' = h ∧ ρ = [(0, byt bs), (3, .int .u64 (BitVec.ofNat 64 (leN (bs.take k))).toNat), (4, .int .i64 k)]) ⟨bs.length, 0, rfl, by omega, rfl, rfl⟩ ?_
  rintro m _ _ ⟨k, rfl, hk, rfl, rfl⟩
  simp only [push_cast, simprocAttr, byt]
  refine ⟨fun hk2 => ?_, fun hk2 => ?_⟩
  · simp (disch := omega) only [push_cast, simprocAttr, wrap_i64, toNat_ofInt64, Nat.min_eq_left, Int.toNat_of_nonneg, hk2]
    refine (Power_spec (8 * k) (by omega)).to ?_
    simp (disch := omega) only [push_cast, simprocAttr, wrap_i64, toNat_ofInt64, Nat.min_eq_left, Int.toNat_of_nonneg, hk2]
    have e : BitVec.ofNat 64 (leN (bs.take k)) + BitVec.setWidth 64 (bs.getD k 0#8) <<< (8 * k) = BitVec.ofNat 64 (leN (bs.take (k + 1))) := by
      have h1 : BitVec.setWidth 64 (bs.getD k 0#8) = BitVec.ofNat 64 (bs.getD k 0#8).toNat := by rw [BitVec.ofNat_toNat]
      have h2 : BitVec.ofNat 64 (bs.getD k 0#8).toNat <<< (8 * k) = BitVec.ofNat 64 (2 ^ (8 * k) * (bs.getD k 0#8).toNat) := by
        apply BitVec.eq_of_toNat_eq
        simp only [BitVec.toNat_shiftLeft, BitVec.toNat_ofNat, Nat.shiftLeft_eq, Nat.mod_mul_mod]
        rw [Nat.mul_comm]
      rw [h1, h2, leN_take bs k hk2, pow256, ← BitVec.ofNat_add]
    rw [e]
    exact ⟨_, _, by omega, .refl _, k + 1, rfl, by omega, rfl, rfl⟩
  · obtain rfl : k = bs.length := by omega
    have h2 := leN_lt bs
    have h3 : 256 ^ bs.length ≤ 256 ^ 4 := Nat.pow_le_pow_right (by omega) hn
    simp
theorem SameBytes_spec (a b : List (BitVec 8)) (ha : a.length ≤ 140737488355328) : Spec Tryz.prog G 40 [byt a, byt b] h (Is (.bool (decide (a = b))) h) := by
  refine Spec.is C40ok rfl ?_
  simp only [push_cast, simprocAttr, byt, len_bne]
  refine ⟨fun hl => ?_, fun hl => ?_⟩
  · have : a ≠ b := fun e => hl (by rw [e])
    simp [this]
  · refine lpc.rel [0, 1, 5] (fun m ρ h' => ∃ k, m = a.length - k ∧ k ≤ a.length ∧ h' = h ∧ a.take k = b.take k ∧ ρ = [(0, byt a), (1, byt b), (5, .int .i64 k)]) ⟨a.length, 0, rfl, by omega, rfl, rfl, rfl⟩ ?_
    rintro m _ _ ⟨k, rfl, hk, rfl, hp, rfl⟩
    simp only [push_cast, simprocAttr, byt]
    refine ⟨fun hk2 => ?_, fun hk2 => ?_⟩
    · have hk3 : k < b.length := by have := Classical.not_not.1 hl; omega
      simp only [push_cast, simprocAttr, hk2, hk3]
      refine ⟨fun he => ?_, fun he => ?_⟩
      · have : a ≠ b := fun e => by subst e; simp at he
        simp [this]
      · have e0 : a.getD k 0#8 = b.getD k 0#8 := by simpa using he
        rw [wrap_i64 (by omega) (by omega)]
        refine ⟨_, _, by omega, .refl _, k + 1, rfl, by omega, rfl, ?_, rfl⟩
        simp only [List.getD_eq_getElem?_getD, List.getElem?_eq_getElem hk2, List.getElem?_eq_getElem hk3, Option.getD_some] at e0
        rw [List.take_add_one, List.take_add_one, hp, List.getElem?_eq_getElem hk2, List.getElem?_eq_getElem hk3, e0]
    · have hk1 : k = a.length := by omega
      have : a = b := by
        rw [hk1, List.take_length, Classical.not_not.1 hl, List.take_length] at hp
        exact hp
      simp [this]
end Go.Ab
end
section
/- Contracts: words as signed numbers, and what the document says of them. -/

set_option linter.unusedSimpArgs false
set_option linter.unusedVariables false
set_option maxRecDepth 10000
namespace Go.Ab
open Go.Proofs
variable {G : Glo} {h : Heap}
@[push_cast] theorem i32_wrap (x : BitVec 32) : IntKind.i32.wrap (x.toNat : Int) = x.toInt := by
  have := x.isLt
  rw [BitVec.toInt_eq_toNat_cond]
  simp only [IntKind.wrap, IntKind.signed, IntKind.bits]
  simp
  split <;> omega
@[push_cast] theorem bits_i32 : IntKind.i32.bits = 32 := rfl
theorem Signed_spec (w : BitVec 32) : Spec Tryz.prog G 111 [.int .u32 w.toNat] h (Is (.int .i64 w.toInt) h) := by
  refine Spec.is C111ok rfl ?_
  have hw := w.isLt
  have h1 := BitVec.toInt_eq_toNat_cond w
  simp (disch := omega) only [push_cast, simprocAttr, wrap_i64, toNat_ofInt64, Nat.min_eq_left, Int.toNat_of_nonneg]
  refine ⟨fun h2 => ?_, fun h2 => ?_⟩
  · rw [h1, if_neg (by omega)]; rfl
  · rw [h1, if_pos (by omega)]
theorem Word_spec (n : Int) : Spec Tryz.prog G 140 [.int .i64 n] h (Is (.int .u32 (BitVec.ofInt 32 n).toNat) h) := by
  refine Spec.is C140ok rfl ?_
  simp (disch := omega) only [push_cast, simprocAttr, wrap_i64, toNat_ofInt64, Nat.min_eq_left, Int.toNat_of_nonneg]
  congr 1
  rw [show (4294967296 : Int) = ((4294967296 : Nat) : Int) from rfl, tmod_nat, BitVec.ofInt_natCast, BitVec.toNat_ofNat, BitVec.toNat_ofInt, BitVec.toNat_ofInt]
  congr 1
  omega
theorem pow_int (k : Nat) : ((2 : Int) ^ k) = ((2 ^ k : Nat) : Int) := by push_cast; rfl
/-- Bits of a word. -/
theorem Bits_spec (w : BitVec 32) (at_ k : Nat) (ha : at_ ≤ 31) (hk : k ≤ 32) : Spec Tryz.prog G 137 [.int .u32 w.toNat, .int .i64 at_, .int .i64 k] h (Is (.int .u32 (BitVec.ofNat 32 (fld w at_ k)).toNat) h) := by
  refine Spec.is C137ok rfl ?_
  simp only [push_cast, simprocAttr]
  refine (Power_spec at_ (by omega)).to ?_
  simp only [push_cast, simprocAttr]
  refine (Power_spec k (by omega)).to ?_
  simp only [push_cast, simprocAttr]
  rw [pow_int, tmod_nat, BitVec.ofInt_natCast, BitVec.toNat_ushiftRight, sw64, Nat.shiftRight_eq_div_pow]
  rfl
/-- A number of k bits, as a signed word. -/
def extN (n k : Nat) : Nat := if 2 ^ (k - 1) ≤ n % 2 ^ k then n % 2 ^ k + 2 ^ 32 - 2 ^ k else n % 2 ^ k
theorem extN_lt (n k : Nat) (hk : k ≤ 32) : extN n k < 2 ^ 32 := by
  have h1 : n % 2 ^ k < 2 ^ k := Nat.mod_lt _ (Nat.two_pow_pos k)
  have h2 : 2 ^ k ≤ 2 ^ 32 := Nat.pow_le_pow_right (by omega) hk
  unfold extN; split <;> omega
theorem PowV {n P : Nat} (hn : n ≤ 63) (hP : 2 ^ n = P) : Spec Tryz.prog G 109 [.int .i64 n] h (Is (.int .u64 (P : Int)) h) := hP ▸ Power_spec n hn
theorem Pow32 : Spec Tryz.prog G 109 [.int .i64 32] h (Is (.int .u64 4294967296) h) := PowV (n := 32) (P := 4294967296) (by omega) (by decide)
theorem Extend_spec (w : BitVec 32) (k : Nat) (h1 : 1 ≤ k) (hk : k ≤ 32) : Spec Tryz.prog G 75 [.int .u32 w.toNat, .int .i64 k] h (Is (.int .u32 (BitVec.ofNat 32 (extN w.toNat k)).toNat) h) := by
  refine Spec.is C75ok rfl ?_
  have hw := w.isLt
  have hE : extN w.toNat k = if 2 ^ (k - 1) ≤ w.toNat % 2 ^ k then w.toNat % 2 ^ k + 2 ^ 32 - 2 ^ k else w.toNat % 2 ^ k := rfl
  generalize extN w.toNat k = E at hE ⊢
  have h2 : 2 ^ k ≤ 2 ^ 32 := Nat.pow_le_pow_right (by omega) hk
  have h3 := Nat.two_pow_pos k
  have h4 : 2 ^ (k - 1) ≤ 2 ^ 32 := Nat.pow_le_pow_right (by omega) (by omega)
  obtain ⟨j, hj⟩ : ∃ j, k - 1 = j := ⟨_, rfl⟩
  have ek : (k : Int) - 1 = (j : Int) := by omega
  rw [hj] at hE h4
  obtain ⟨P, hP⟩ : ∃ P, 2 ^ k = P := ⟨_, rfl⟩
  obtain ⟨H, hH⟩ : ∃ H, 2 ^ j = H := ⟨_, rfl⟩
  rw [hP] at hE h2 h3
  rw [hH] at hE h4
  have hm : w.toNat % P < P := Nat.mod_lt _ h3
  have h5 : ((P : Int) = 0) = False := by simp; omega
  simp only [push_cast, simprocAttr]
  refine (PowV (by omega) hP).to ?_
  simp (disch := omega) only [push_cast, simprocAttr, wrap_i64, toNat_ofInt64, Nat.min_eq_left, Int.toNat_of_nonneg, ek, sw64, h5]
  refine (PowV (by omega) hH).to ?_
  obtain ⟨M, hM⟩ : ∃ M, w.toNat % P = M := ⟨_, rfl⟩
  have e2 : ((w.toNat : Int) % (P : Int)) = (M : Int) := by rw [← hM]; push_cast; rfl
  rw [hM] at hE hm
  simp only [push_cast, simprocAttr, e2]
  refine ⟨fun hc => ?_, fun hc => ?_⟩
  · refine Pow32.to ?_
    simp only [push_cast, simprocAttr]
    refine (PowV (by omega) hP).to ?_
    simp (disch := omega) only [push_cast, simprocAttr, wrap_i64, toNat_ofInt64, Nat.min_eq_left, Int.toNat_of_nonneg]
    rw [if_pos (by omega)] at hE
    rw [show ((M : Int) + 4294967296 - P) = ((E : Nat) : Int) by omega, BitVec.ofInt_natCast]
  · rw [if_neg (by omega)] at hE
    subst hE
    rw [BitVec.ofInt_natCast]
end Go.Ab
end
section
/- Memory: the program's, in blocks of one's own. -/
set_option linter.unusedSimpArgs false
set_option linter.unusedVariables false
set_option maxRecDepth 10000
namespace Go.Ab
open Go.Proofs
variable {G : Glo} {h : Heap}
def bos (l : List Bool) : List AV := l.map .bool
def qws (l : List (BitVec 64)) : List AV := l.map fun x => .int .u64 (x.toNat : Int)
@[push_cast] theorem bos_len (l) : (bos l).length = l.length := by simp [bos]
@[push_cast] theorem qws_len (l) : (qws l).length = l.length := by simp [qws]
@[push_cast] theorem bos_get (l : List Bool) (i : Nat) : (bos l)[i]? = if i < l.length then some (AV.bool (l.getD i false)) else none := by
  simp only [bos, List.getElem?_map]
  split
  · rename_i h; simp [h]
  · rename_i h; simp [Nat.not_lt.1 h]
@[push_cast] theorem qws_get (l : List (BitVec 64)) (i : Nat) : (qws l)[i]? = if i < l.length then some (AV.int .u64 ((l.getD i 0#64).toNat : Int)) else none := by
  simp only [qws, List.getElem?_map]
  split
  · rename_i h; simp [h]
  · rename_i h; simp [Nat.not_lt.1 h]
@[push_cast] theorem bos_set (l : List Bool) (i : Nat) (b : Bool) : (bos l).set i (.bool b) = bos (l.set i b) := by simp [bos, List.map_set]
@[push_cast] theorem qws_set (l : List (BitVec 64)) (i : Nat) (x : BitVec 64) : (qws l).set i (.int .u64 (x.toNat : Int)) = qws (l.set i x) := by simp [qws, List.map_set]
/-- A memory: its bytes, and of each page whether it is watched, and its generation. -/
structure IRam where
  b : List (BitVec 8)
  w : List Bool
  g : List (BitVec 64)
/-- Where a memory lies: its box, and its rows. -/
structure Pl where
  p : Nat
  b : Nat
  w : Nat
  g : Nat
structure Pl.ok (l : Pl) : Prop where
  pb : l.p ≠ l.b
  pw : l.p ≠ l.w
  pg : l.p ≠ l.g
  bw : l.b ≠ l.w
  bg : l.b ≠ l.g
  wg : l.w ≠ l.g
def Pl.has (l : Pl) (c : Nat) : Prop := c = l.p ∨ c = l.b ∨ c = l.w ∨ c = l.g
def IRam.wf (M : IRam) : Prop := 64 ≤ M.b.length ∧ M.b.length ≤ 65536 ∧ M.b.length % 64 = 0 ∧ M.w.length = M.b.length / 64 ∧ M.g.length = M.b.length / 64
structure RamAt (H : Heap) (l : Pl) (M : IRam) : Prop where
  ok : l.ok
  wf : M.wf
  hp : H l.p = some ⟨[.sl l.b 0 M.b.length M.b.length, .sl l.w 0 M.w.length M.w.length, .sl l.g 0 M.g.length M.g.length], 0⟩
  hb : H l.b = some ⟨bys M.b, 0⟩
  hw : H l.w = some ⟨bos M.w, 0⟩
  hg : H l.g = some ⟨qws M.g, 0⟩
theorem RamAt.upd {H : Heap} {l : Pl} {M : IRam} (hr : RamAt H l M) {c : Nat} {X : Blk} (hc : ¬ l.has c) : RamAt (Ab.upd H c X) l M := by
  simp only [Pl.has, not_or] at hc
  exact ⟨hr.ok, hr.wf, by rw [upd_ne (Ne.symm hc.1)]; exact hr.hp, by rw [upd_ne (Ne.symm hc.2.1)]; exact hr.hb, by rw [upd_ne (Ne.symm hc.2.2.1)]; exact hr.hw, by rw [upd_ne (Ne.symm hc.2.2.2)]; exact hr.hg⟩
theorem RamAt.not {H : Heap} {l : Pl} {M : IRam} (hr : RamAt H l M) {c : Nat} (hc : H c = none) : ¬ l.has c := by
  rintro (rfl | rfl | rfl | rfl)
  · rw [hr.hp] at hc; cases hc
  · rw [hr.hb] at hc; cases hc
  · rw [hr.hw] at hc; cases hc
  · rw [hr.hg] at hc; cases hc
/-- Are addresses there? -/
def hasN (len : Nat) (addr : BitVec 32) (n : Int) : Bool := decide (1 ≤ n) && decide (n ≤ len) && decide (2147483648 ≤ addr.toNat) && decide ((addr.toNat : Int) - 2147483648 ≤ len - n)
def askedN (len : Nat) (addr : BitVec 32) (n : Int) : Int := if ¬ (n = 1 ∨ n = 2 ∨ n = 4) then 2 else if (addr.toNat : Int) % n ≠ 0 then 5 else if hasN len addr n then 0 else 6
theorem sub_base (addr : BitVec 32) (ha : 2147483648 ≤ addr.toNat) : (addr - 2147483648#32).toNat = addr.toNat - 2147483648 := by
  have := addr.isLt
  rw [BitVec.toNat_sub]; simp; omega
section
variable {l : Pl} {M : IRam}
theorem Has_spec (hr : RamAt h l M) (addr : BitVec 32) (n : Int) (hn : n ≤ 9223372036854775807) (hn0 : -9223372036854775808 ≤ n) : Spec Tryz.prog G 118 [.ptr l.p 0, .int .u32 addr.toNat, .int .i64 n] h (Is (.bool (hasN M.b.length addr n)) h) := by
  have hp := hr.hp
  have hw := hr.wf
  unfold IRam.wf at hw
  have hN : hasN M.b.length addr n = (decide (1 ≤ n) && decide (n ≤ M.b.length) && decide (2147483648 ≤ addr.toNat) && decide ((addr.toNat : Int) - 2147483648 ≤ M.b.length - n)) := rfl
  generalize hasN M.b.length addr n = N at hN ⊢
  refine Spec.is C118ok rfl ?_
  simp only [push_cast, simprocAttr, hp]
  refine ⟨fun q => ?_, fun q => ?_⟩
  · rw [hN]; (first | rfl | (congr 1; done) | (congr 1; rw [Bool.eq_iff_iff]; simp only [Bool.and_eq_true, Bool.or_eq_true, Bool.not_eq_true', decide_eq_true_eq, decide_eq_false_iff_not, Bool.false_eq_true, true_and, and_true]; first | omega | grind))
  · rw [sub_base addr (by omega), wrap_i64 (by omega) (by omega), hN]; (first | rfl | (congr 1; done) | (congr 1; rw [Bool.eq_iff_iff]; simp only [Bool.and_eq_true, Bool.or_eq_true, Bool.not_eq_true', decide_eq_true_eq, decide_eq_false_iff_not, Bool.false_eq_true, true_and, and_true]; first | omega | grind))
theorem Has_nil (addr : BitVec 32) (n : Int) : Spec Tryz.prog G 118 [.nilp, .int .u32 addr.toNat, .int .i64 n] h (Is (.bool false) h) := by
  refine Spec.is C118ok rfl ?_
  simp only [push_cast, simprocAttr]
theorem tmod_124 (a : BitVec 32) (n : Int) (hn : n = 1 ∨ n = 2 ∨ n = 4) : (a.toNat : Int).tmod ((BitVec.ofInt 32 n).toNat : Int) = (a.toNat : Int) % n ∧ (((BitVec.ofInt 32 n).toNat : Int) = 0) = False := by
  rcases hn with rfl | rfl | rfl
  · exact ⟨by rw [show ((BitVec.ofInt 32 1).toNat : Int) = 1 from rfl, Int.tmod_eq_emod_of_nonneg (by omega)], by simp⟩
  · exact ⟨by rw [show ((BitVec.ofInt 32 2).toNat : Int) = 2 from rfl, Int.tmod_eq_emod_of_nonneg (by omega)], by simp⟩
  · exact ⟨by rw [show ((BitVec.ofInt 32 4).toNat : Int) = 4 from rfl, Int.tmod_eq_emod_of_nonneg (by omega)], by simp⟩
theorem asked_spec (hr : RamAt h l M) (addr : BitVec 32) (n : Int) : Spec Tryz.prog G 153 [.ptr l.p 0, .int .u32 addr.toNat, .int .i64 n] h (Is (.int .i64 (askedN M.b.length addr n)) h) := by
  by_cases hn : n = 1 ∨ n = 2 ∨ n = 4
  · obtain ⟨t1, t2⟩ := tmod_124 addr n hn
    have hN : askedN M.b.length addr n = if (addr.toNat : Int) % n ≠ 0 then 5 else if hasN M.b.length addr n then 0 else 6 := by rw [askedN, if_neg (fun q => q hn)]
    have e0 : (((n != 1) && (n != 2)) && (n != 4)) = false := by rcases hn with rfl | rfl | rfl <;> rfl
    rw [hN]
    refine Spec.is C153ok rfl ?_
    simp only [push_cast, simprocAttr, t1, t2, e0]
    by_cases hm : (addr.toNat : Int) % n = 0
    · simp only [push_cast, simprocAttr, t1, t2, e0, hm]
      refine (Has_spec hr addr n (by omega) (by omega)).to ?_
      cases hH : hasN M.b.length addr n
      · simp only [push_cast, simprocAttr]
      · simp only [push_cast, simprocAttr]
    · simp only [push_cast, simprocAttr, t1, t2, e0, hm]
  · have hN : askedN M.b.length addr n = 2 := by rw [askedN, if_pos hn]
    have e0 : (((n != 1) && (n != 2)) && (n != 4)) = true := by simp; omega
    rw [hN]
    refine Spec.is C153ok rfl ?_
    simp only [push_cast, simprocAttr, e0]
theorem asked_nil (addr : BitVec 32) (n : Int) : Spec Tryz.prog G 153 [.nilp, .int .u32 addr.toNat, .int .i64 n] h (Is (.int .i64 2) h) := by
  refine Spec.is C153ok rfl ?_
  simp only [push_cast, simprocAttr]
theorem at_spec (hr : RamAt h l M) (addr : BitVec 32) (n : Nat) (hh : hasN M.b.length addr n = true) : Spec Tryz.prog G 119 [.ptr l.p 0, .int .u32 addr.toNat, .int .i64 n] h (Is (.sl l.b (addr.toNat - 2147483648) n n) h) := by
  have hp := hr.hp
  have hw := hr.wf
  unfold IRam.wf at hw
  simp only [hasN, Bool.and_eq_true, decide_eq_true_eq] at hh
  have e1 := sub_base addr (by omega)
  obtain ⟨k, hk⟩ : ∃ k, addr.toNat - 2147483648 = k := ⟨_, rfl⟩
  rw [hk] at e1 ⊢
  refine Spec.is C119ok rfl ?_
  simp (disch := omega) only [push_cast, simprocAttr, wrap_i64, toNat_ofInt64, Nat.min_eq_left, Int.toNat_of_nonneg, hp, e1]
  refine ⟨⟨⟨by omega, by omega⟩, ⟨by omega, by omega⟩, by omega⟩, ?_⟩
  rw [show ((k : Int) + n).toNat - k = n by omega]
theorem Arg1.part {h : Heap} {b o n cap : Nat} {x : Blk} {cells : List AV} (hb : h b = some x) (hc : ∀ (i : Nat) v, cells[i]? = some v → x.cells[o + i]? = some v) (h0 : n = 0 → cells = []) : Arg1 h (.sl b o n cap) (.ro cells n) :=
  fun w v hw hr => row_rep hw hb hc h0 hr (fun h => h) (fun _ _ h => h)
def IRam.load (M : IRam) (addr : BitVec 32) (n : Nat) : BitVec 32 := BitVec.ofNat 32 (leN ((M.b.drop (addr.toNat - 2147483648)).take n))
theorem Load_spec (hr : RamAt h l M) (addr : BitVec 32) (n : Int) : Spec Tryz.prog G 128 [.ptr l.p 0, .int .u32 addr.toNat, .int .i64 n] h
    (Is (.tup [.int .u32 (if askedN M.b.length addr n = 0 then M.load addr n.toNat else 0#32).toNat, .int .i64 (askedN M.b.length addr n)]) h) := by
  refine Spec.is C128ok rfl ?_
  simp only [push_cast, simprocAttr]
  refine (asked_spec hr addr n).to ?_
  by_cases hz : askedN M.b.length addr n = 0
  · have hz' : (askedN M.b.length addr n != 0) = false := by simp [hz]
    rw [if_pos hz]
    obtain ⟨N, rfl⟩ : ∃ N : Nat, n = N := ⟨n.toNat, by unfold askedN at hz; split at hz <;> omega⟩
    simp only [push_cast, simprocAttr, hz']
    refine (at_spec hr addr N (by unfold askedN at hz; split at hz; omega; split at hz; omega; split at hz; assumption; omega)).to ?_
    simp only [push_cast, simprocAttr, hz']
    have hH : hasN M.b.length addr N = true := by unfold askedN at hz; split at hz; omega; split at hz; omega; split at hz; assumption; omega
    have hn : N = 1 ∨ N = 2 ∨ N = 4 := by unfold askedN at hz; split at hz <;> omega
    simp only [hasN, Bool.and_eq_true, decide_eq_true_eq] at hH
    have hl : ((M.b.drop (addr.toNat - 2147483648)).take N).length = N := by rw [List.length_take, List.length_drop]; omega
    refine Spec.borrow (Number_spec ((M.b.drop (addr.toNat - 2147483648)).take N) (by rw [hl]; exact hn)) (.cons ?_ .nil) ?_
    · rw [byt, hl]
      refine Arg1.part hr.hb (fun i v hv => ?_) (fun e => by omega)
      rw [← bys_take, ← bys_drop, List.getElem?_take] at hv
      split at hv
      · rw [List.getElem?_drop] at hv; exact hv
      · cases hv
    · rintro _ _ ⟨rfl, rfl⟩
      refine ⟨rfl, ?_⟩
      simp only [push_cast, simprocAttr, hz]
      rfl
  · have hz' : (askedN M.b.length addr n != 0) = true := by simp [hz]
    rw [if_neg hz]
    simp only [push_cast, simprocAttr, hz']
def IRam.page (M : IRam) (addr : BitVec 32) : Int := if hasN M.b.length addr 1 then (((addr.toNat - 2147483648) / 64 : Nat) : Int) else -1
theorem Page_spec (hr : RamAt h l M) (addr : BitVec 32) : Spec Tryz.prog G 156 [.ptr l.p 0, .int .u32 addr.toNat] h (Is (.int .i64 (M.page addr)) h) := by
  refine Spec.is C156ok rfl ?_
  simp only [push_cast, simprocAttr]
  refine (Has_spec hr addr 1 (by omega) (by omega)).to ?_
  unfold IRam.page
  cases hH : hasN M.b.length addr 1 with
  | false => simp only [push_cast, simprocAttr]
  | true =>
    simp only [hasN, Bool.and_eq_true, decide_eq_true_eq] at hH
    have e1 := sub_base addr (by omega)
    have := addr.isLt
    simp only [push_cast, simprocAttr, e1]
    rw [wrap_i64 (x := ((addr.toNat - 2147483648 : Nat) : Int)) (by omega) (by omega), Int.tdiv_eq_ediv_of_nonneg (by omega), wrap_i64 (by omega) (by omega)]
theorem bys_splice (b c : List (BitVec 8)) (k : Nat) (hk : k + c.length ≤ b.length) : splice (bys b) k (bys c) = bys (b.take k ++ c ++ b.drop (k + c.length)) := by
  apply List.ext_getElem?
  intro i
  rw [splice_get (by simpa [bys] using hk)]
  simp only [bys, List.getElem?_map, List.length_map, List.map_append]
  split
  · rename_i hi
    rw [List.getElem?_append_left (by simp; omega), List.getElem?_append_right (by simp; omega), List.getElem?_map]
    simp [Nat.min_eq_left (show k ≤ b.length by omega)]
  · rename_i hi
    by_cases hlt : i < k
    · rw [List.getElem?_append_left (by simp; omega), List.getElem?_append_left (by simp; omega), List.getElem?_map, List.getElem?_take, if_pos hlt]
    · rw [List.getElem?_append_right (by simp; omega), List.getElem?_map, List.getElem?_drop]
      simp only [List.length_append, List.length_map, List.length_take]
      rw [show k + c.length + (i - (min k b.length + c.length)) = i by omega]
/-- Behind a call that writes to a memory alone. -/
def RamTo (l : Pl) (M : IRam) (v : AV) (h : Heap) (r : AV) (h' : Heap) : Prop := r = v ∧ RamAt h' l M ∧ ∀ c, ¬ l.has c → h' c = h c
/-- Bytes laid at an address. -/
def IRam.put (M : IRam) (k : Nat) (c : List (BitVec 8)) : IRam := { M with b := M.b.take k ++ c ++ M.b.drop (k + c.length) }
theorem put_len (M : IRam) (k : Nat) (c : List (BitVec 8)) (hk : k + c.length ≤ M.b.length) : (M.put k c).b.length = M.b.length := by simp [IRam.put]; omega
theorem RamAt.put {H : Heap} (hr : RamAt H l M) (k : Nat) (c : List (BitVec 8)) (hk : k + c.length ≤ M.b.length) : RamAt (Ab.upd H l.b ⟨bys (M.put k c).b, 0⟩) l (M.put k c) := by
  have hl := put_len M k c hk
  have ho := hr.ok
  refine ⟨ho, ?_, ?_, upd_same _ _ _, ?_, ?_⟩
  · have := hr.wf; unfold IRam.wf at this ⊢; rw [hl]; exact this
  · rw [upd_ne ho.pb, hl]; exact hr.hp
  · rw [upd_ne (Ne.symm ho.bw)]; exact hr.hw
  · rw [upd_ne (Ne.symm ho.bg)]; exact hr.hg
theorem RamAt.setW {H : Heap} (hr : RamAt H l M) (p : Nat) (b : Bool) : RamAt (Ab.upd H l.w ⟨bos (M.w.set p b), 0⟩) l { M with w := M.w.set p b } := by
  have ho := hr.ok
  refine ⟨ho, ?_, ?_, ?_, upd_same _ _ _, ?_⟩
  · have := hr.wf; unfold IRam.wf at this ⊢; simpa using this
  · rw [upd_ne ho.pw]; simpa using hr.hp
  · rw [upd_ne ho.bw]; exact hr.hb
  · rw [upd_ne (Ne.symm ho.wg)]; exact hr.hg
theorem RamAt.setG {H : Heap} (hr : RamAt H l M) (p : Nat) (x : BitVec 64) : RamAt (Ab.upd H l.g ⟨qws (M.g.set p x), 0⟩) l { M with g := M.g.set p x } := by
  have ho := hr.ok
  refine ⟨ho, ?_, ?_, ?_, ?_, upd_same _ _ _⟩
  · have := hr.wf; unfold IRam.wf at this ⊢; simpa using this
  · rw [upd_ne ho.pg]; simpa using hr.hp
  · rw [upd_ne ho.bg]; exact hr.hb
  · rw [upd_ne ho.wg]; exact hr.hw
def fillE (len : Nat) (addr : BitVec 32) (n : Nat) : Int := if n = 0 then 0 else if hasN len addr n then 0 else 6
def IRam.fill (M : IRam) (addr : BitVec 32) (c : List (BitVec 8)) : IRam := if c.length ≠ 0 ∧ hasN M.b.length addr c.length = true then M.put (addr.toNat - 2147483648) c else M
theorem Fill_spec (hr : RamAt h l M) (addr : BitVec 32) (c : List (BitVec 8)) (hc : c.length ≤ 140737488355328) : Spec Tryz.prog G 85 [.ptr l.p 0, .int .u32 addr.toNat, byt c] h
    (RamTo l (M.fill addr c) (.int .i64 (fillE M.b.length addr c.length)) h) := by
  have hA : fillE M.b.length addr c.length = if c.length = 0 then 0 else if hasN M.b.length addr c.length then 0 else 6 := rfl
  have hF : M.fill addr c = if c.length ≠ 0 ∧ hasN M.b.length addr c.length = true then M.put (addr.toNat - 2147483648) c else M := rfl
  by_cases h0 : c.length = 0
  · have h0' : (c.length : Int) = 0 := by omega
    rw [if_pos h0] at hA
    rw [if_neg (fun q => q.1 h0)] at hF
    rw [hA, hF]
    refine Spec.walk C85ok rfl ?_
    simp only [push_cast, simprocAttr, h0']
    exact ⟨rfl, hr, fun _ _ => rfl⟩
  · have h0' : ((c.length : Int) = 0) = False := by simp only [eq_iff_iff, iff_false]; omega
    rw [if_neg h0] at hA
    have hS := Has_spec (G := G) hr addr c.length (by omega) (by omega)
    cases hH : hasN M.b.length addr c.length with
    | false =>
      rw [hH] at hA hF hS
      rw [if_neg (by simp)] at hA
      rw [if_neg (fun q => by cases q.2)] at hF
      rw [hA, hF]
      refine Spec.walk C85ok rfl ?_
      simp only [push_cast, simprocAttr, h0']
      refine hS.to ?_
      simp only [push_cast, simprocAttr]
      exact ⟨rfl, hr, fun _ _ => rfl⟩
    | true =>
      rw [hH] at hA hF hS
      rw [if_pos rfl] at hA
      rw [if_pos ⟨h0, rfl⟩] at hF
      rw [hA, hF]
      refine Spec.walk C85ok rfl ?_
      simp only [push_cast, simprocAttr, h0']
      refine hS.to ?_
      simp only [push_cast, simprocAttr]
      refine (at_spec hr addr c.length hH).to ?_
      simp only [hasN, Bool.and_eq_true, decide_eq_true_eq] at hH
      have hb := hr.hb
      simp only [push_cast, simprocAttr, hb]
      refine ⟨by omega, ?_⟩
      rw [List.take_of_length_le (by simp [bys]), bys_splice _ _ _ (by omega)]
      have := hr.put (addr.toNat - 2147483648) c (by omega)
      refine ⟨rfl, this, fun d hd => ?_⟩
      rw [upd_ne (fun e => hd (.inr (.inl e)))]
def IRam.store (M : IRam) (addr : BitVec 32) (n : Nat) (w : BitVec 32) : IRam × Bool :=
  let k := addr.toNat - 2147483648
  let N := M.put k (leB w n)
  if M.w.getD (k / 64) false then ({ N with w := N.w.set (k / 64) false, g := N.g.set (k / 64) (N.g.getD (k / 64) 0#64 + 1#64) }, true) else (N, false)
theorem Store_spec (hr : RamAt h l M) (addr : BitVec 32) (n : Int) (w : BitVec 32) : Spec Tryz.prog G 131 [.ptr l.p 0, .int .u32 addr.toNat, .int .i64 n, .int .u32 w.toNat] h
    (if askedN M.b.length addr n = 0 then RamTo l (M.store addr n.toNat w).1 (.tup [.bool (M.store addr n.toNat w).2, .int .i64 0]) h else RamTo l M (.tup [.bool false, .int .i64 (askedN M.b.length addr n)]) h) := by
  refine Spec.walk C131ok rfl ?_
  simp only [push_cast, simprocAttr]
  refine (asked_spec hr addr n).to ?_
  by_cases hz : askedN M.b.length addr n = 0
  · have hz' : (askedN M.b.length addr n != 0) = false := by simp [hz]
    rw [if_pos hz]
    obtain ⟨N, rfl⟩ : ∃ N : Nat, n = N := ⟨n.toNat, by unfold askedN at hz; split at hz <;> omega⟩
    have hH : hasN M.b.length addr N = true := by unfold askedN at hz; split at hz; omega; split at hz; omega; split at hz; assumption; omega
    have hn : N = 1 ∨ N = 2 ∨ N = 4 := by unfold askedN at hz; split at hz <;> omega
    simp only [push_cast, simprocAttr, hz']
    refine (Bytes_spec w N hn).to ?_
    simp only [push_cast, simprocAttr]
    refine (at_spec hr addr N hH).to ?_
    have hb := hr.hb
    simp only [push_cast, simprocAttr, hb]
    have hH' := hH
    simp only [hasN, Bool.and_eq_true, decide_eq_true_eq] at hH'
    have hll : (leB w N).length = N := leB_len w N
    obtain ⟨k, hk⟩ : ∃ k, addr.toNat - 2147483648 = k := ⟨_, rfl⟩
    have hS : M.store addr N w = (if M.w.getD (k / 64) false then ({ M.put k (leB w N) with w := (M.put k (leB w N)).w.set (k / 64) false, g := (M.put k (leB w N)).g.set (k / 64) ((M.put k (leB w N)).g.getD (k / 64) 0#64 + 1#64) }, true) else (M.put k (leB w N), false)) := by simp only [IRam.store, hk]
    rw [hk]
    refine ⟨by omega, ?_⟩
    rw [List.take_of_length_le (by simp [bys, hll]), bys_splice _ _ _ (by omega)]
    have hr1 := hr.put k (leB w N) (by omega)
    have hsm : ∀ c, ¬ l.has c → (upd h l.b ⟨bys (M.put k (leB w N)).b, 0⟩) c = h c := fun c hc => upd_ne (fun e => hc (.inr (.inl e)))
    have hlen := put_len M k (leB w N) (by omega)
    have hpg : (M.put k (leB w N)).page addr = ((k / 64 : Nat) : Int) := by
      rw [IRam.page, hlen, if_pos (by simp only [hasN, Bool.and_eq_true, decide_eq_true_eq]; omega), hk]
    have hwf := hr.wf
    unfold IRam.wf at hwf
    have hMw : (M.put k (leB w N)).w = M.w := rfl
    have hMg : (M.put k (leB w N)).g = M.g := rfl
    obtain ⟨M1, hM1⟩ : ∃ M1, M.put k (leB w N) = M1 := ⟨_, rfl⟩
    change Spec _ _ _ _ (upd h l.b ⟨bys (M.put k (leB w N)).b, 0⟩) _
    rw [hM1] at hS hr1 hsm hlen hpg hMw hMg ⊢
    obtain ⟨H1, hH1⟩ : ∃ H1, upd h l.b ⟨bys M1.b, 0⟩ = H1 := ⟨_, rfl⟩
    rw [hH1] at hr1 hsm ⊢
    refine (Page_spec hr1 addr).to ?_
    obtain ⟨p, hp⟩ : ∃ p, k / 64 = p := ⟨_, rfl⟩
    have hpl : p < M1.w.length := by rw [hMw]; omega
    have hpl2 : p < M1.g.length := by rw [hMg]; omega
    rw [hpg, hp]
    rw [hp] at hS
    have q1 := hr1.hp
    have q2 := hr1.hw
    have q3 := hr1.hg
    simp only [push_cast, simprocAttr, q1, q2]
    refine ⟨by omega, hpl, ?_⟩
    rw [← hMw] at hS
    refine ⟨fun hit => ⟨hpl, by omega, ?_⟩, fun hit => ?_⟩
    · have hr2 := hr1.setW p false
      have hsm2 : ∀ c, ¬ l.has c → (upd H1 l.w ⟨bos (M1.w.set p false), 0⟩) c = h c := fun c hc => by rw [upd_ne (fun e => hc (.inr (.inr (.inl e)))), hsm c hc]
      obtain ⟨H2, hH2⟩ : ∃ H2, upd H1 l.w ⟨bos (M1.w.set p false), 0⟩ = H2 := ⟨_, rfl⟩
      rw [hH2] at hr2 hsm2 ⊢
      have q4 := hr2.hp
      have q5 := hr2.hg
      simp only [push_cast, simprocAttr, q4, q5]
      refine ⟨by omega, hpl2, hpl2, by omega, ?_⟩
      rw [if_pos hit] at hS
      rw [hS]
      have hr3 := hr2.setG p (M1.g.getD p 0#64 + 1#64)
      refine ⟨by rw [hit], hr3, fun c hc => ?_⟩
      rw [upd_ne (fun e => hc (.inr (.inr (.inr e)))), hsm2 c hc]
    · rw [if_neg (by rw [hit]; simp)] at hS
      rw [hS]
      exact ⟨by rw [hit], hr1, hsm⟩
  · have hz' : (askedN M.b.length addr n != 0) = true := by simp [hz]
    rw [if_neg hz]
    simp only [push_cast, simprocAttr, hz']
    exact ⟨rfl, hr, fun _ _ => rfl⟩
end
end Go.Ab
end
section
/- Memory: made anew, watched, and all its bytes. -/
set_option linter.unusedSimpArgs false
set_option linter.unusedVariables false
set_option maxRecDepth 10000
namespace Go.Ab
open Go.Proofs
variable {G : Glo} {h : Heap}
section
variable {l : Pl} {M : IRam}
def rightN (n : Int) : Bool := decide (64 ≤ n) && decide (n ≤ 65536) && decide (n % 64 = 0)
def IRam.new (n : Nat) : IRam := ⟨List.replicate n 0, List.replicate (n / 64) false, List.replicate (n / 64) 0⟩
/-- A memory that is made anew. -/
def RamNew (h : Heap) (n : Nat) (r : AV) (h' : Heap) : Prop := ∃ l : Pl, r = .tup [.ptr l.p 0, .int .i64 0] ∧ RamAt h' l (IRam.new n) ∧ (∀ c, l.has c → h c = none) ∧ ∀ c, ¬ l.has c → h' c = h c
theorem new_cells (n : Nat) : bys (List.replicate n 0) = List.replicate n (AV.int .u8 0) ∧ bos (List.replicate n false) = List.replicate n (AV.bool false) ∧ qws (List.replicate n 0) = List.replicate n (AV.int .u64 0) := by
  simp [bys, bos, qws]
theorem New_no (n : Int) (hn : rightN n = false) : Spec Tryz.prog G 49 [.int .i64 n] h (Is (.tup [.nilp, .int .i64 4]) h) := by
  have hc : ((decide (n < 64) || decide (n > 65536)) || (n.tmod 64 != 0)) = true := by
    simp only [rightN, Bool.and_eq_false_iff, decide_eq_false_iff_not] at hn
    simp only [Bool.or_eq_true, decide_eq_true_eq, bne_iff_ne]
    by_cases h64 : n < 64
    · exact .inl (.inl h64)
    · rw [Int.tmod_eq_emod_of_nonneg (by omega)]
      omega
  refine Spec.is C49ok rfl ?_
  simp only [push_cast, simprocAttr, hc]
theorem New_spec (n : Nat) (hn : rightN n = true) : Spec Tryz.prog G 49 [.int .i64 n] h (RamNew h n) := by
  simp only [rightN, Bool.and_eq_true, decide_eq_true_eq] at hn
  have hc : ((decide ((n : Int) < 64) || decide ((n : Int) > 65536)) || ((n : Int).tmod 64 != 0)) = false := by
    simp only [Bool.or_eq_false_iff, decide_eq_false_iff_not, bne_eq_false_iff_eq]
    rw [Int.tmod_eq_emod_of_nonneg (by omega)]
    omega
  have hq : (n : Int).tdiv 64 = ((n / 64 : Nat) : Int) := by simp
  obtain ⟨p, hp⟩ : ∃ p, n / 64 = p := ⟨_, rfl⟩
  rw [hp] at hq
  obtain ⟨c1, c2, c3⟩ := new_cells n
  obtain ⟨d1, d2, d3⟩ := new_cells p
  have fin : ∀ (b1 b2 b3 b4 : Nat) (H : Heap), (h b1 = none ∧ h b2 = none ∧ h b3 = none ∧ h b4 = none) → (b1 ≠ b2 ∧ b1 ≠ b3 ∧ b2 ≠ b3 ∧ b4 ≠ b1 ∧ b4 ≠ b2 ∧ b4 ≠ b3) →
      H b1 = some ⟨List.replicate n (.int .u8 0), 0⟩ → H b2 = some ⟨List.replicate p (.bool false), 0⟩ → H b3 = some ⟨List.replicate p (.int .u64 0), 0⟩ → H b4 = some ⟨[.sl b1 0 n n, .sl b2 0 p p, .sl b3 0 p p], 0⟩ →
      (∀ c, c ≠ b1 → c ≠ b2 → c ≠ b3 → c ≠ b4 → H c = h c) → RamNew h n (.tup [.ptr b4 0, .int .i64 0]) H := by
    intro b1 b2 b3 b4 H ⟨f1, f2, f3, f4⟩ ⟨n12, n13, n23, n41, n42, n43⟩ h1 h2 h3 h4 ho
    refine ⟨⟨b4, b1, b2, b3⟩, rfl, ⟨⟨n41, n42, n43, n12, n13, n23⟩, ?_, ?_, ?_, ?_, ?_⟩, ?_, ?_⟩
    · unfold IRam.wf IRam.new; simp; omega
    · rw [h4]; simp [IRam.new, hp]
    · rw [h1, ← c1]; rfl
    · rw [h2, ← d2, ← hp]; rfl
    · rw [h3, ← d3, ← hp]; rfl
    · rintro c (rfl | rfl | rfl | rfl) <;> assumption
    · intro c hc
      simp only [Pl.has, not_or] at hc
      exact ho c hc.2.1 hc.2.2.1 hc.2.2.2 hc.1
  refine Spec.walk C49ok rfl ?_
  have z1 : ((n : Int) - (n : Int)).toNat = 0 := by omega
  have z2 : ((p : Int) - (p : Int)).toNat = 0 := by omega
  have z3 : ∀ (x y z u : Nat), x ≠ y → x ≠ z → y ≠ z → u ≠ x → u ≠ y → u ≠ z → ∀ A B C D : Blk, upd (upd (upd (upd h x A) y B) z C) u D x = some A ∧ upd (upd (upd (upd h x A) y B) z C) u D y = some B ∧ upd (upd (upd (upd h x A) y B) z C) u D z = some C ∧
      upd (upd (upd (upd h x A) y B) z C) u D u = some D ∧ ∀ c, c ≠ x → c ≠ y → c ≠ z → c ≠ u → upd (upd (upd (upd h x A) y B) z C) u D c = h c := by
    intro x y z u q1 q2 q3 q4 q5 q6 A B C D
    refine ⟨?_, ?_, ?_, upd_same _ _ _, fun c k1 k2 k3 k4 => ?_⟩
    · rw [upd_ne (Ne.symm q4), upd_ne q2, upd_ne q1, upd_same]
    · rw [upd_ne (Ne.symm q5), upd_ne q3, upd_same]
    · rw [upd_ne (Ne.symm q6), upd_same]
    · rw [upd_ne k4, upd_ne k3, upd_ne k2, upd_ne k1]
  simp (disch := omega) only [push_cast, simprocAttr, wrap_i64, toNat_ofInt64, Nat.min_eq_left, Int.toNat_of_nonneg, hc, hq, z1, z2]
  (repeat' (first | apply And.intro | intro _)) <;> first
    | omega
    | (rename_i b0 e0 b1 e1 b2 e2 b3 e3
       obtain ⟨n10, f1⟩ := upd_none e1
       obtain ⟨n21, e2'⟩ := upd_none e2
       obtain ⟨n20, f2⟩ := upd_none e2'
       obtain ⟨n32, e3'⟩ := upd_none e3
       obtain ⟨n31, e3''⟩ := upd_none e3'
       obtain ⟨n30, f3⟩ := upd_none e3''
       have key := z3 b0 b1 b2 b3 (Ne.symm n10) (Ne.symm n20) (Ne.symm n21) n30 n31 n32
       clear z3
       first
         | exact fin b0 b1 b2 b3 _ ⟨e0, f1, f2, f3⟩ ⟨Ne.symm n10, Ne.symm n20, Ne.symm n21, n30, n31, n32⟩ (key _ _ _ _).1 (key _ _ _ _).2.1 (key _ _ _ _).2.2.1 (key _ _ _ _).2.2.2.1 (fun c q1 q2 q3 q4 => (key _ _ _ _).2.2.2.2 c q1 q2 q3 q4)
         | exact fin b0 b2 b1 b3 _ ⟨e0, f2, f1, f3⟩ ⟨Ne.symm n20, Ne.symm n10, n21, n30, n32, n31⟩ (key _ _ _ _).1 (key _ _ _ _).2.2.1 (key _ _ _ _).2.1 (key _ _ _ _).2.2.2.1 (fun c q1 q2 q3 q4 => (key _ _ _ _).2.2.2.2 c q1 q3 q2 q4)
         | exact fin b1 b0 b2 b3 _ ⟨f1, e0, f2, f3⟩ ⟨n10, Ne.symm n21, Ne.symm n20, n31, n30, n32⟩ (key _ _ _ _).2.1 (key _ _ _ _).1 (key _ _ _ _).2.2.1 (key _ _ _ _).2.2.2.1 (fun c q1 q2 q3 q4 => (key _ _ _ _).2.2.2.2 c q2 q1 q3 q4)
         | exact fin b2 b0 b1 b3 _ ⟨f2, e0, f1, f3⟩ ⟨n20, n21, Ne.symm n10, n32, n30, n31⟩ (key _ _ _ _).2.2.1 (key _ _ _ _).1 (key _ _ _ _).2.1 (key _ _ _ _).2.2.2.1 (fun c q1 q2 q3 q4 => (key _ _ _ _).2.2.2.2 c q2 q3 q1 q4)
         | exact fin b1 b2 b0 b3 _ ⟨f1, f2, e0, f3⟩ ⟨Ne.symm n21, n10, n20, n31, n32, n30⟩ (key _ _ _ _).2.1 (key _ _ _ _).2.2.1 (key _ _ _ _).1 (key _ _ _ _).2.2.2.1 (fun c q1 q2 q3 q4 => (key _ _ _ _).2.2.2.2 c q3 q1 q2 q4)
         | exact fin b2 b1 b0 b3 _ ⟨f2, f1, e0, f3⟩ ⟨n21, n20, n10, n32, n31, n30⟩ (key _ _ _ _).2.2.1 (key _ _ _ _).2.1 (key _ _ _ _).1 (key _ _ _ _).2.2.2.1 (fun c q1 q2 q3 q4 => (key _ _ _ _).2.2.2.2 c q3 q2 q1 q4))
theorem AllBytes_spec (hr : RamAt h l M) : Spec Tryz.prog G 29 [.ptr l.p 0] h (Is (byt M.b) h) := by
  have hp := hr.hp
  have hb := hr.hb
  have hw := hr.wf
  unfold IRam.wf at hw
  refine Spec.weak (Q := fun r h' => ∃ c, h c = none ∧ r = .sl c 0 M.b.length M.b.length ∧ h' = upd h c ⟨bys M.b, 0⟩) ?_ ?_
  · refine Spec.walk C29ok rfl ?_
    simp (disch := omega) only [push_cast, simprocAttr, wrap_i64, toNat_ofInt64, Nat.min_eq_left, Int.toNat_of_nonneg, hp]
    refine ⟨by omega, by omega, by omega, fun c hc => ?_⟩
    have hne := hr.not hc
    have hr1 := hr.upd (X := ⟨List.replicate M.b.length (.int .u8 0), ((M.b.length : Int) - M.b.length).toNat⟩) hne
    have q1 := hr1.hp
    have q2 := hr1.hb
    simp (disch := omega) only [push_cast, simprocAttr, wrap_i64, toNat_ofInt64, Nat.min_eq_left, Int.toNat_of_nonneg, q1, q2]
    refine ⟨Nat.le_refl _, by simp, c, hc, rfl, ?_⟩
    rw [List.take_of_length_le (show (List.take M.b.length (bys M.b)).length ≤ M.b.length by simp [bys]), List.take_of_length_le (show (bys M.b).length ≤ M.b.length by simp [bys]), splice_all' (by simp [bys]), show ((M.b.length : Int) - M.b.length).toNat = 0 by omega]
  · rintro _ _ ⟨c, hc, rfl, rfl⟩
    exact ⟨_, _, ⟨rfl, rfl⟩, Le.freeze (pre := []) hc (fun e => by omega)⟩
end
end Go.Ab
end
section
/- The machine: what it is, and where it lies. -/
set_option linter.unusedSimpArgs false
set_option linter.unusedVariables false
set_option maxRecDepth 10000
namespace Go.Ab
open Go.Proofs
/-- The registers that are kept, and offsets of those that count. -/
structure IFile where
  k : Kp
  cyc : BitVec 64
  ins : BitVec 64
  deriving DecidableEq
def IFile.cells (f : IFile) : List AV := wds f.k.l ++ [.int .u64 (f.cyc.toNat : Int), .int .u64 (f.ins.toNat : Int)]
/-- A timer. -/
structure ITim where
  off : BitVec 64
  mark : BitVec 64
  soft : Bool
  deriving DecidableEq
def ITim.cells (t : ITim) : List AV := [.int .u64 (t.off.toNat : Int), .int .u64 (t.mark.toNat : Int), .bool t.soft]
def ITim.now (t : ITim) (tick : BitVec 64) : BitVec 64 := tick + t.off
def ITim.up (t : ITim) (tick : BitVec 64) : Bool := decide (t.mark.toNat ≤ (t.now tick).toNat)
/-- An arrival. -/
structure IArr where
  tick : BitVec 64
  byte : BitVec 8
  deriving DecidableEq
def IArr.cells (a : IArr) : List AV := [.int .u64 (a.tick.toNat : Int), .int .u8 (a.byte.toNat : Int)]
def IArr.zero : IArr := ⟨0, 0⟩
@[push_cast] theorem IArr.len (a : IArr) : a.cells.length = 2 := rfl
def arrC (l : List IArr) : List AV := l.flatMap IArr.cells
abbrev arrs (l : List IArr) : AV := .ro (arrC l) l.length
theorem arrC_len (l : List IArr) : (arrC l).length = l.length * 2 := by
  induction l with
  | nil => rfl
  | cons x r ih => simp only [arrC, List.flatMap_cons, List.length_append, List.length_cons] at ih ⊢; rw [ih, IArr.len]; omega
section
variable (l : List IArr) (k : Nat)
@[push_cast] theorem arr_0 : (arrC l)[k * 2]? = if k < l.length then some (.int .u64 ((l.getD k IArr.zero).tick.toNat : Int)) else none := by rw [← Nat.add_zero (k * 2), arrC, flat_getD _ _ _ IArr.zero IArr.len _ _ (by omega)]; rfl
@[push_cast] theorem arr_1 : (arrC l)[k * 2 + 1]? = if k < l.length then some (.int .u8 ((l.getD k IArr.zero).byte.toNat : Int)) else none := by rw [arrC, flat_getD _ _ _ IArr.zero IArr.len _ _ (by omega)]; rfl
end
/-- A console: what is to come, how many came, what waits, was one lost, what went out. -/
structure ICon where
  l : List IArr
  came : Nat
  rx : List (BitVec 8)
  over : Bool
  out : List (BitVec 8)
  deriving DecidableEq
def ICon.cells (c : ICon) : List AV := [arrs c.l, .int .i64 (c.came : Int), byt c.rx, .bool c.over, byt c.out]
/-- A bus, as the document has it. -/
structure IBus where
  b : List (BitVec 8)
  c : ICon
  t : ITim
  off : Bool
  code : BitVec 32
  deriving DecidableEq
def IBus.cells (b : IBus) : List AV := byt b.b :: (b.c.cells ++ b.t.cells ++ [.bool b.off, .int .u32 (b.code.toNat : Int)])
/-- A machine. -/
structure ICpu where
  pc : BitVec 32
  regs : Rg
  f : IFile
  tick : BitVec 64
  ret : BitVec 64
  bus : IBus
  ev : List Evt
  deriving DecidableEq
def ICpu.cells (c : ICpu) : List AV := .int .u32 (c.pc.toNat : Int) :: (wds c.regs.toList ++ (c.f.cells ++ (.int .u64 (c.tick.toNat : Int) :: .int .u64 (c.ret.toNat : Int) :: (c.bus.cells ++ [evts c.ev]))))
/-- What a machine begins with: a part of an image; all. -/
structure IPart where
  at_ : BitVec 32
  b : List (BitVec 8)
  deriving DecidableEq
def IPart.cells (p : IPart) : List AV := [.int .u32 (p.at_.toNat : Int), byt p.b]
def IPart.zero : IPart := ⟨0, []⟩
@[push_cast] theorem IPart.len (a : IPart) : a.cells.length = 2 := rfl
def partC (l : List IPart) : List AV := l.flatMap IPart.cells
theorem partC_len (l : List IPart) : (partC l).length = l.length * 2 := by
  induction l with
  | nil => rfl
  | cons x r ih => simp only [partC, List.flatMap_cons, List.length_append, List.length_cons] at ih ⊢; rw [ih, IPart.len]; omega
section
variable (l : List IPart) (k : Nat)
@[push_cast] theorem part_0 : (partC l)[k * 2]? = if k < l.length then some (.int .u32 ((l.getD k IPart.zero).at_.toNat : Int)) else none := by rw [← Nat.add_zero (k * 2), partC, flat_getD _ _ _ IPart.zero IPart.len _ _ (by omega)]; rfl
@[push_cast] theorem part_1 : (partC l)[k * 2 + 1]? = if k < l.length then some (byt (l.getD k IPart.zero).b) else none := by rw [partC, flat_getD _ _ _ IPart.zero IPart.len _ _ (by omega)]; rfl
@[push_cast] theorem part_p : partOf (partC l) (k * 2) (some 2) = if k < l.length then some (.agg (l.getD k IPart.zero).cells) else none := flat_partD _ _ _ IPart.zero IPart.len (by omega) _
end
structure ISt where
  size : Int
  parts : List IPart
  input : List IArr
  pc : BitVec 32
  regs : Rg
  k : Kp
  cyc : BitVec 64
  ins : BitVec 64
  t : ITim
  tick : BitVec 64
  ret : BitVec 64
def ISt.cells (s : ISt) : List AV := .int .i64 s.size :: .ro (partC s.parts) s.parts.length :: arrs s.input :: .int .u32 (s.pc.toNat : Int) :: (wds s.regs.toList ++ (wds s.k.l ++ (.int .u64 (s.cyc.toNat : Int) :: .int .u64 (s.ins.toNat : Int) :: (s.t.cells ++ [.int .u64 (s.tick.toNat : Int), .int .u64 (s.ret.toNat : Int)]))))
/-- The program's rows: where one lies. -/
def RowAt (sz : Nat) (H : Heap) (v : AV) (cells : List AV) (n : Nat) : Option Nat → Prop
  | none => v = .nils ∧ cells = [] ∧ n = 0
  | some b => ∃ pre cap sp, v = .sl b (List.length pre) n cap ∧ H b = some ⟨pre ++ cells, sp⟩ ∧ cells.length = n * sz ∧ cap * sz ≤ n * sz + sp
/-- Bytes that wait, in a ring. -/
def ringN (b : List (BitVec 8)) (first n : Nat) : List (BitVec 8) := (List.range n).map fun i => b.getD ((first + i) % 16) 0#8
def FifoAt (H : Heap) (p : Nat) (rx : List (BitVec 8)) : Prop := ∃ (b : List (BitVec 8)) (first n : Nat), H p = some ⟨bys b ++ [.int .i64 (first : Int), .int .i64 (n : Int)], 0⟩ ∧ b.length = 16 ∧ first < 16 ∧ n ≤ 16 ∧ rx = ringN b first n
/-- Where a machine lies. -/
structure Plc where
  p : Nat
  bus : Nat
  con : Nat
  fifo : Nat
  tim : Nat
  ram : Pl
  ob : Option Nat
  eb : Option Nat
def Plc.l (l : Plc) : List Nat := [l.p, l.bus, l.con, l.fifo, l.tim, l.ram.p, l.ram.b, l.ram.w, l.ram.g] ++ l.ob.toList ++ l.eb.toList
def Plc.has (l : Plc) (d : Nat) : Prop := d ∈ l.l
def cpuC (c : ICpu) (bus : Nat) (v : AV) : List AV := .int .u32 (c.pc.toNat : Int) :: (wds c.regs.toList ++ (c.f.cells ++ [.int .u64 (c.tick.toNat : Int), .int .u64 (c.ret.toNat : Int), .ptr bus 0, v]))
structure MachAt (H : Heap) (l : Plc) (c : ICpu) (M : IRam) : Prop where
  nd : l.l.Nodup
  hc : ∃ v, H l.p = some ⟨cpuC c l.bus v, 0⟩ ∧ RowAt 45 H v (c.ev.flatMap Evt.cells) c.ev.length l.eb
  hb : H l.bus = some ⟨[.ptr l.ram.p 0, .ptr l.con 0, .ptr l.tim 0, .bool c.bus.off, .int .u32 (c.bus.code.toNat : Int)], 0⟩
  hn : ∃ v, H l.con = some ⟨[arrs c.bus.c.l, .int .i64 (c.bus.c.came : Int), .ptr l.fifo 0, .bool c.bus.c.over, v], 0⟩ ∧ RowAt 1 H v (bys c.bus.c.out) c.bus.c.out.length l.ob
  hf : FifoAt H l.fifo c.bus.c.rx
  ht : H l.tim = some ⟨c.bus.t.cells, 0⟩
  hr : RamAt H l.ram M
  hm : M.b = c.bus.b
  hl : c.bus.c.l.length ≤ 256
  came : c.bus.c.came ≤ c.bus.c.l.length
end Go.Ab
end
section
/- Bytes that wait. -/
set_option linter.unusedSimpArgs false
set_option linter.unusedVariables false
set_option maxRecDepth 10000
namespace Go.Ab
open Go.Proofs
variable {G : Glo} {h : Heap}
theorem ring_len (b : List (BitVec 8)) (first n : Nat) : (ringN b first n).length = n := by simp [ringN]
theorem ring_get (b : List (BitVec 8)) (first n k : Nat) (hk : k < n) : (ringN b first n).getD k 0#8 = b.getD ((first + k) % 16) 0#8 := by simp [ringN, hk]
theorem fifo_at (b : List (BitVec 8)) (x y : AV) (hb : b.length = 16) : (bys b ++ [x, y]).length = 18 ∧ (bys b ++ [x, y])[16]? = some x ∧ (bys b ++ [x, y])[17]? = some y ∧ ∀ k, k < 16 → (bys b ++ [x, y])[k]? = some (.int .u8 ((b.getD k 0#8).toNat : Int)) := by
  have hl : (bys b).length = 16 := by simp [bys, hb]
  refine ⟨by simp [hl], ?_, ?_, fun k hk => ?_⟩
  · rw [List.getElem?_append_right (by omega), hl]; rfl
  · rw [List.getElem?_append_right (by omega), hl]; rfl
  · rw [List.getElem?_append_left (by omega), bys_get, if_pos (by omega)]
theorem FifoAt.len {H : Heap} {p : Nat} {rx : List (BitVec 8)} (hf : FifoAt H p rx) : rx.length ≤ 16 := by
  obtain ⟨b, first, n, _, _, _, h4, rfl⟩ := hf
  rw [ring_len]; exact h4
theorem fLen_spec {H : Heap} {p : Nat} {rx : List (BitVec 8)} (hf : FifoAt H p rx) : Spec Tryz.prog G 136 [.ptr p 0] H (Is (.int .i64 (rx.length : Nat)) H) := by
  obtain ⟨b, first, n, hp, hb, hfi, hn, rfl⟩ := hf
  obtain ⟨l18, c16, c17, _⟩ := fifo_at b (.int .i64 (first : Int)) (.int .i64 (n : Int)) hb
  rw [ring_len]
  generalize bys b ++ [.int .i64 (first : Int), .int .i64 (n : Int)] = cells at *
  refine Spec.is C136ok rfl ?_
  simp only [push_cast, simprocAttr, hp, c17]
theorem each_spec {H : Heap} {p l : Nat} {rx : List (BitVec 8)} (hy : YOk Tryz.prog G) (J : Nat → Heap → Prop) (hJf : ∀ k h, J k h → FifoAt h p rx)
    (hJ : ∀ k h1 (Q : AV → Heap → Prop), k < rx.length → J k h1 → (∀ h2, J (k + 1) h2 → Q (.bool true) h2) → G.y l [.int .u8 ((rx.getD k 0#8).toNat : Int)] h1 Q) (h0 : J 0 H) :
    Spec Tryz.prog G 99 [.ptr p 0, .yl l] H (fun r h2 => r = .tup [] ∧ J rx.length h2) := by
  have hl16 := (hJf 0 H h0).len
  refine Spec.walk C99ok rfl ?_
  simp only [push_cast, simprocAttr]
  refine (fLen_spec (hJf 0 H h0)).to ?_
  simp only [push_cast, simprocAttr]
  refine lpc.rel [0, 1, 6, 7] (fun m ρ H' => ∃ k : Nat, m = rx.length - k ∧ k ≤ rx.length ∧ J k H' ∧ ρ = [(0, .ptr p 0), (1, .yl l), (6, .int .i64 (rx.length : Nat)), (7, .int .i64 (k : Int))]) ⟨_, 0, rfl, by omega, h0, rfl⟩ ?_
  rintro m _ H' ⟨k, rfl, hk, hj, rfl⟩
  have hf := hJf k H' hj
  obtain ⟨b, first, n, hp, hb, hfi, hn, he⟩ := hf
  obtain ⟨l18, c16, c17, cb⟩ := fifo_at b (.int .i64 (first : Int)) (.int .i64 (n : Int)) hb
  have hln : rx.length = n := by rw [he, ring_len]
  have hy2 := hJ k H'
  have hget : k < rx.length → rx.getD k 0#8 = b.getD ((first + k) % 16) 0#8 := fun q => by rw [he, ring_get _ _ _ _ (by omega)]
  obtain ⟨q, hq⟩ : ∃ q, (first + k) % 16 = q := ⟨_, rfl⟩
  have cb2 := cb q (by omega)
  rw [hq] at hget
  generalize bys b ++ [.int .i64 (first : Int), .int .i64 (n : Int)] = cells at *
  have hm : ((first : Int) + (k : Int)) % 16 = (q : Int) := by omega
  have hm2 : ((first : Int) + (k : Int)).tmod 16 = (q : Int) := by rw [Int.tmod_eq_emod_of_nonneg (by omega)]; exact hm
  have hq16 : q < 16 := by omega
  simp (disch := omega) only [push_cast, simprocAttr, wrap_i64, toNat_ofInt64, Nat.min_eq_left, Int.toNat_of_nonneg, hp, c16, c17, hm, hm2, cb2]
  refine ⟨fun hlt => ?_, fun hge => ?_⟩
  · have hlt2 : k < rx.length := by omega
    rw [hget hlt2] at hy2
    refine ⟨by omega, hy, hy2 _ hlt2 hj fun h2 hj2 => ?_⟩
    simp (disch := omega) only [push_cast, simprocAttr, wrap_i64, toNat_ofInt64, Nat.min_eq_left, Int.toNat_of_nonneg]
    exact ⟨_, _, by omega, .refl _, k + 1, rfl, by omega, hj2, rfl⟩
  · obtain rfl : k = rx.length := by omega
    first | exact hj | exact ⟨rfl, hj⟩
theorem rg_upd {H g : Heap} {sz n : Nat} {v : AV} {cells : List AV} {l : Nat} {X Y : Blk} (ho : Own sz (upd g l X) v cells n H) : Own sz (upd g l Y) v cells n (upd H l Y) := by
  have := Own.upd ho (b := l) (x := Y) (.inr ⟨_, upd_same _ _ _⟩)
  rwa [upd_upd] at this
theorem own_era {H g : Heap} {sz n : Nat} {v : AV} {cells : List AV} {l : Nat} {X : Blk} (ho : Own sz (upd g l X) v cells n H) (hg : g l = none) : Own sz g v cells n (era H l) := by
  cases ho with
  | nil =>
    have : era (upd g l X) l = g := by
      funext c; simp only [era, upd]; split
      · rename_i e; rw [e, hg]
      · rfl
    rw [this]; exact .nil
  | row b n cap pre cells sp hb hl hc =>
    obtain ⟨hne, hgb⟩ := upd_none hb
    have : era (upd (upd g l X) b ⟨pre ++ cells, sp⟩) l = upd g b ⟨pre ++ cells, sp⟩ := by
      funext c; simp only [era, upd]
      by_cases e : c = l
      · subst e; rw [if_pos rfl, if_neg (Ne.symm hne), hg]
      · rw [if_neg e, if_neg e]
    rw [this]
    exact .row b n cap pre cells sp hgb hl hc
theorem All_spec {H : Heap} {p : Nat} {rx : List (BitVec 8)} (hf : FifoAt H p rx) : Spec Tryz.prog G 63 [.ptr p 0] H (Is (byt rx) H) := by
  have hl16 := hf.len
  refine Spec.weak (Q := fun r h' => ∃ h1, Sub h1 h' ∧ Own 1 H r (bys rx) rx.length h1) ?_ ?_
  · refine Spec.walkR C63ok rfl ?_
    simp only [push_cast, simprocAttr]
    intro c3 hc3
    refine rfV_fn ⟨_, C99ok.hf, rfl, rfl⟩ ?_
    intro l r e hl hr1 hr2 hy
    obtain ⟨n3, hlH⟩ := upd_none hl
    have hne : ¬ c3 = l := Ne.symm n3
    refine (each_spec (rx := rx) hy (fun k h => ∃ v, Own 1 (upd (upd H c3 ⟨[v], 0⟩) l (lpB r)) v (bys (rx.take k)) k h) ?_ ?_ ?_).mono ?_
    · rintro k h ⟨v, ho⟩
      obtain ⟨b, first, n, hp, hb, hfi, hn, he⟩ := hf
      have h1 : ¬ p = c3 := fun e => by rw [e, hc3] at hp; cases hp
      have h2 : ¬ p = l := fun e => by rw [e, hlH] at hp; cases hp
      exact ⟨b, first, n, ho.get (by rw [upd_ne h2, upd_ne h1]; exact hp), hb, hfi, hn, he⟩
    · rintro k h1 Q hk ⟨v, ho⟩ hQ
      have g3 := ho.get (b := c3) (by rw [upd_ne hne]; exact upd_same _ _ _)
      have gl := ho.get (b := l) (upd_same _ _ _)
      refine ⟨rfl, rfl, gl, ?_⟩
      have ho2 := rg_upd (Y := lpB (lpBusy r)) ho
      have g3' : upd h1 l (lpB (lpBusy r)) c3 = some ⟨[v], 0⟩ := by rw [upd_ne hne]; exact g3
      simp only [List.zip_cons_cons, List.zip_nil_right, List.reverse_cons, List.reverse_nil, List.nil_append, List.cons_append]
      simp only [push_cast, simprocAttr, g3', gl]
      refine Own.app ho2 (m := 1) rfl (by omega) (by omega) fun v3 h3 ho3 => ?_
      have g33 := ho3.get (b := c3) (by rw [upd_ne hne]; exact upd_same _ _ _)
      have gl3 := ho3.get (b := l) (upd_same _ _ _)
      have gl3' : upd h3 c3 ⟨[v3], 0⟩ l = some (lpB (lpBusy r)) := by rw [upd_ne n3]; exact gl3
      simp only [push_cast, simprocAttr, g33, gl3', ho3.one]
      refine hQ _ ⟨v3, ?_⟩
      have ho4 := Own.upd ho3 (b := c3) (x := ⟨[v3], 0⟩) (.inr ⟨_, by rw [upd_ne hne]; exact upd_same _ _ _⟩)
      have ho5 := Own.upd ho4 (b := l) (x := lpB r) (.inr ⟨_, by rw [upd_ne n3]; exact upd_same _ _ _⟩)
      have e1 : upd (upd (upd (upd H c3 ⟨[v], 0⟩) l (lpB (lpBusy r))) c3 ⟨[v3], 0⟩) l (lpB r) = upd (upd H c3 ⟨[v3], 0⟩) l (lpB r) := by
        rw [upd_comm (b := l) (c := c3) n3, upd_upd, upd_upd]
      rw [e1] at ho5
      have e2 : bys (rx.take (k + 1)) = bys (rx.take k) ++ [.int .u8 ((rx.getD k 0#8).toNat : Int)] := by
        rw [List.take_add_one, bys_app]; simp [hk, bys]
      rw [e2]
      exact ho5
    · exact ⟨.nils, by rw [List.take_zero]; exact .nil⟩
    · rintro r2 h2 ⟨rfl, v, ho⟩
      rw [List.take_length] at ho
      have gl := ho.get (b := l) (upd_same _ _ _)
      have g3 := ho.get (b := c3) (by rw [upd_ne hne]; exact upd_same _ _ _)
      refine .inl ⟨gl, ?_⟩
      have g3' : era h2 l c3 = some ⟨[v], 0⟩ := by simp only [era, if_neg hne]; exact g3
      simp only [push_cast, simprocAttr, g3']
      obtain ⟨h4, s4, ho4⟩ := Own.drop (c := c3) (own_era ho (by rw [upd_ne n3]; exact hlH)) hc3
      exact ⟨h4, s4, ho4⟩
  · rintro r h' ⟨h1, hs, ho⟩
    exact ⟨_, _, ⟨rfl, rfl⟩, le_sub hs ho.freeze⟩
end Go.Ab
end
section
/- The machine's cells. -/
set_option linter.unusedSimpArgs false
set_option linter.unusedVariables false
set_option maxRecDepth 10000
namespace Go.Ab
open Go.Proofs
/-- A record with 32 words behind its first cell. -/
def rec32 (x : AV) (r : Rg) (T : List AV) : List AV := x :: (wds r.toList ++ T)
section
variable (x y : AV) (r : Rg) (T : List AV) (k : Nat)
theorem rw_len : (wds r.toList).length = 32 := by simp [wds]
theorem r32_len : (rec32 x r T).length = 33 + T.length := by simp [rec32, rw_len]; omega
theorem r32_0 : (rec32 x r T)[0]? = some x := rfl
theorem r32_t : (rec32 x r T)[33 + k]? = T[k]? := by
  rw [rec32, show 33 + k = (32 + k) + 1 by omega, List.getElem?_cons_succ, List.getElem?_append_right (by rw [rw_len]; omega), rw_len]
  congr 1; omega
theorem r32_r (hk : k < 32) : (rec32 x r T)[1 + k]? = some (.int .u32 ((r.toList.getD k 0#32).toNat : Int)) := by
  rw [rec32, Nat.add_comm, List.getElem?_cons_succ, List.getElem?_append_left (by rw [rw_len]; omega), wds_get, if_pos (by simpa using hk)]
theorem r32_set0 : (rec32 x r T).set 0 y = rec32 y r T := rfl
theorem r32_set : (rec32 x r T).set (33 + k) y = rec32 x r (T.set k y) := by
  rw [rec32, show 33 + k = (32 + k) + 1 by omega, List.set_cons_succ, List.set_append_right _ _ (by rw [rw_len]; omega), rw_len, rec32]
  congr 3; omega
theorem r32_setr (hk : k < 32) (w : BitVec 32) : (rec32 x r T).set (1 + k) (.int .u32 (w.toNat : Int)) = rec32 x (r.set k w) T := by
  rw [rec32, Nat.add_comm, List.set_cons_succ, List.set_append_left _ _ (by rw [rw_len]; omega), rec32]
  congr 2
  simp [wds, List.map_set, Vector.toList_set]
theorem r32_drop : (rec32 x r T).drop (33 + k) = T.drop k := by
  rw [rec32, show 33 + k = (32 + k) + 1 by omega, List.drop_succ_cons, List.drop_append, List.drop_eq_nil_of_le (by rw [rw_len]; omega), rw_len, List.nil_append]
  congr 1; omega
theorem r32_regs : partOf (rec32 x r T) 1 (some 32) = some (.agg (wds r.toList)) := by
  rw [partOf_some, if_pos (by rw [r32_len]; omega)]
  congr 2
  rw [rec32, List.drop_succ_cons, List.drop_zero, List.take_append_of_le_length (by rw [rw_len]; omega), List.take_of_length_le (by rw [rw_len]; omega)]
theorem r32_part (n : Nat) (h : k + n ≤ T.length) : partOf (rec32 x r T) (33 + k) (some n) = some (.agg ((T.drop k).take n)) := by
  rw [partOf_some, if_pos (by rw [r32_len]; omega), r32_drop]
theorem r32_all (n : Nat) (h : n = 33 + T.length) : partOf (rec32 x r T) 0 (some n) = some (.agg (rec32 x r T)) := partOf_all (by rw [r32_len, h])
/-- Words of a list, as registers. -/
def rgOf (l : List (BitVec 32)) : Rg := if h : l.length = 32 then ⟨l.toArray, by simpa using h⟩ else Rg.zero
theorem rgOf_toList {l : List (BitVec 32)} (hl : l.length = 32) : (rgOf l).toList = l := by
  unfold rgOf
  rw [dif_pos hl]
  simp [Vector.toList]
theorem splice_len {C S : List AV} {k : Nat} (h : 2 ≤ S.length) : splice C k S = C.take k ++ S ++ C.drop (k + S.length) := by
  match S, h with
  | a :: b :: s, _ => rfl
theorem r32_spr (l : List (BitVec 32)) (hl : l.length = 32) : splice (rec32 x r T) 1 (wds l) = rec32 x (rgOf l) T := by
  rw [splice_len (by rw [wds_len, hl]; omega), show (wds l).length = 32 by rw [wds_len, hl]]
  have h1 : (rec32 x r T).drop (1 + 32) = T := r32_drop x r T 0
  rw [h1]
  simp [rec32, rgOf_toList hl]
theorem r32_sp (S : List AV) (h : 2 ≤ S.length) : splice (rec32 x r T) (33 + k) S = rec32 x r (splice T k S) := by
  rw [splice_len h, splice_len h, Nat.add_assoc, r32_drop]
  have h1 : (rec32 x r T).take (33 + k) = x :: (wds r.toList ++ T.take k) := by
    rw [rec32, show 33 + k = (32 + k) + 1 by omega, List.take_succ_cons, List.take_append, List.take_of_length_le (by rw [rw_len]; omega), rw_len]
    congr 3; omega
  rw [h1, rec32]
  simp
end
section
variable (c : ICpu)
def ICpu.tl : List AV := [.int .u32 (c.f.k.st.toNat : Int), .int .u32 (c.f.k.ie.toNat : Int), .int .u32 (c.f.k.tv.toNat : Int), .int .u32 (c.f.k.sc.toNat : Int), .int .u32 (c.f.k.ep.toNat : Int), .int .u32 (c.f.k.ca.toNat : Int), .int .u32 (c.f.k.tl.toNat : Int),
  .int .u64 (c.f.cyc.toNat : Int), .int .u64 (c.f.ins.toNat : Int), .int .u64 (c.tick.toNat : Int), .int .u64 (c.ret.toNat : Int), byt c.bus.b, arrs c.bus.c.l, .int .i64 (c.bus.c.came : Int), byt c.bus.c.rx, .bool c.bus.c.over, byt c.bus.c.out,
  .int .u64 (c.bus.t.off.toNat : Int), .int .u64 (c.bus.t.mark.toNat : Int), .bool c.bus.t.soft, .bool c.bus.off, .int .u32 (c.bus.code.toNat : Int), evts c.ev]
theorem ICpu.cells_eq : c.cells = rec32 (.int .u32 (c.pc.toNat : Int)) c.regs c.tl := rfl
@[push_cast] theorem cpu_0 : c.cells[0]? = some (.int .u32 (c.pc.toNat : Int)) := rfl
@[push_cast] theorem cpu_42 : c.cells[42]? = some (.int .u64 (c.tick.toNat : Int)) := r32_t _ _ c.tl 9
@[push_cast] theorem cpu_43 : c.cells[43]? = some (.int .u64 (c.ret.toNat : Int)) := r32_t _ _ c.tl 10
@[push_cast] theorem cpu_44 : c.cells[44]? = some (byt c.bus.b) := r32_t _ _ c.tl 11
@[push_cast] theorem cpu_45 : c.cells[45]? = some (arrs c.bus.c.l) := r32_t _ _ c.tl 12
@[push_cast] theorem cpu_46 : c.cells[46]? = some (.int .i64 (c.bus.c.came : Int)) := r32_t _ _ c.tl 13
@[push_cast] theorem cpu_47 : c.cells[47]? = some (byt c.bus.c.rx) := r32_t _ _ c.tl 14
@[push_cast] theorem cpu_48 : c.cells[48]? = some (.bool c.bus.c.over) := r32_t _ _ c.tl 15
@[push_cast] theorem cpu_49 : c.cells[49]? = some (byt c.bus.c.out) := r32_t _ _ c.tl 16
@[push_cast] theorem cpu_53 : c.cells[53]? = some (.bool c.bus.off) := r32_t _ _ c.tl 20
@[push_cast] theorem cpu_54 : c.cells[54]? = some (.int .u32 (c.bus.code.toNat : Int)) := r32_t _ _ c.tl 21
@[push_cast] theorem cpu_55 : c.cells[55]? = some (evts c.ev) := r32_t _ _ c.tl 22
@[push_cast] theorem cpu_len : c.cells.length = 56 := r32_len _ _ _
@[push_cast] theorem cpu_all : partOf c.cells 0 (some 56) = some (.agg c.cells) := partOf_all (cpu_len c)
@[push_cast] theorem cpu_regs : partOf c.cells 1 (some 32) = some (.agg (wds c.regs.toList)) := r32_regs _ _ _
@[push_cast] theorem cpu_file : partOf c.cells 33 (some 9) = some (.agg c.f.cells) := r32_part _ _ c.tl 0 9 (by simp [ICpu.tl])
@[push_cast] theorem cpu_kept : partOf c.cells 33 (some 7) = some (.agg (wds c.f.k.l)) := r32_part _ _ c.tl 0 7 (by simp [ICpu.tl])
@[push_cast] theorem cpu_bus : partOf c.cells 44 (some 11) = some (.agg c.bus.cells) := r32_part _ _ c.tl 11 11 (by simp [ICpu.tl])
@[push_cast] theorem cpu_tim : partOf c.cells 50 (some 3) = some (.agg c.bus.t.cells) := r32_part _ _ c.tl 17 3 (by simp [ICpu.tl])
@[push_cast] theorem cpu_s0 (w : BitVec 32) : c.cells.set 0 (.int .u32 (w.toNat : Int)) = ICpu.cells { c with pc := w } := rfl
@[push_cast] theorem cpu_s42 (w : BitVec 64) : c.cells.set 42 (.int .u64 (w.toNat : Int)) = ICpu.cells { c with tick := w } := r32_set _ _ _ c.tl 9
@[push_cast] theorem cpu_s43 (w : BitVec 64) : c.cells.set 43 (.int .u64 (w.toNat : Int)) = ICpu.cells { c with ret := w } := r32_set _ _ _ c.tl 10
@[push_cast] theorem cpu_s44 (b : List (BitVec 8)) : c.cells.set 44 (.ro (bys b) b.length) = ICpu.cells { c with bus := { c.bus with b := b } } := r32_set _ _ _ c.tl 11
@[push_cast] theorem cpu_s47 (b : List (BitVec 8)) : c.cells.set 47 (.ro (bys b) b.length) = ICpu.cells { c with bus := { c.bus with c := { c.bus.c with rx := b } } } := r32_set _ _ _ c.tl 14
theorem cpu_sr (l : List (BitVec 32)) (hl : l.length = 32) : splice c.cells 1 (wds l) = ICpu.cells { c with regs := rgOf l } := r32_spr _ _ _ l hl
@[push_cast] theorem cpu_sf (f : IFile) : splice c.cells 33 f.cells = ICpu.cells { c with f := f } := r32_sp _ _ c.tl 0 f.cells (by simp [IFile.cells, Kp.l])
@[push_cast] theorem cpu_st (t : ITim) : splice c.cells 50 t.cells = ICpu.cells { c with bus := { c.bus with t := t } } := r32_sp _ _ c.tl 17 t.cells (by simp [ITim.cells])
/-- The program's box. -/
def ICpu.tp (bus : Nat) (v : AV) : List AV := [.int .u32 (c.f.k.st.toNat : Int), .int .u32 (c.f.k.ie.toNat : Int), .int .u32 (c.f.k.tv.toNat : Int), .int .u32 (c.f.k.sc.toNat : Int), .int .u32 (c.f.k.ep.toNat : Int), .int .u32 (c.f.k.ca.toNat : Int), .int .u32 (c.f.k.tl.toNat : Int),
  .int .u64 (c.f.cyc.toNat : Int), .int .u64 (c.f.ins.toNat : Int), .int .u64 (c.tick.toNat : Int), .int .u64 (c.ret.toNat : Int), .ptr bus 0, v]
variable (bus : Nat) (v : AV)
theorem cpuC_eq : cpuC c bus v = rec32 (.int .u32 (c.pc.toNat : Int)) c.regs (c.tp bus v) := rfl
@[push_cast] theorem cpb_0 : (cpuC c bus v)[0]? = some (.int .u32 (c.pc.toNat : Int)) := rfl
@[push_cast] theorem cpb_42 : (cpuC c bus v)[42]? = some (.int .u64 (c.tick.toNat : Int)) := r32_t _ _ (c.tp bus v) 9
@[push_cast] theorem cpb_43 : (cpuC c bus v)[43]? = some (.int .u64 (c.ret.toNat : Int)) := r32_t _ _ (c.tp bus v) 10
@[push_cast] theorem cpb_44 : (cpuC c bus v)[44]? = some (.ptr bus 0) := r32_t _ _ (c.tp bus v) 11
@[push_cast] theorem cpb_45 : (cpuC c bus v)[45]? = some v := r32_t _ _ (c.tp bus v) 12
@[push_cast] theorem cpb_len : (cpuC c bus v).length = 46 := r32_len _ _ _
@[push_cast] theorem cpb_all : partOf (cpuC c bus v) 0 (some 46) = some (.agg (cpuC c bus v)) := partOf_all (cpb_len c bus v)
@[push_cast] theorem cpb_regs : partOf (cpuC c bus v) 1 (some 32) = some (.agg (wds c.regs.toList)) := r32_regs _ _ _
@[push_cast] theorem cpb_file : partOf (cpuC c bus v) 33 (some 9) = some (.agg c.f.cells) := r32_part _ _ (c.tp bus v) 0 9 (by simp [ICpu.tp])
@[push_cast] theorem cpb_kept : partOf (cpuC c bus v) 33 (some 7) = some (.agg (wds c.f.k.l)) := r32_part _ _ (c.tp bus v) 0 7 (by simp [ICpu.tp])
@[push_cast] theorem cpb_s0 (w : BitVec 32) : (cpuC c bus v).set 0 (.int .u32 (w.toNat : Int)) = cpuC { c with pc := w } bus v := rfl
@[push_cast] theorem cpb_s42 (w : BitVec 64) : (cpuC c bus v).set 42 (.int .u64 (w.toNat : Int)) = cpuC { c with tick := w } bus v := r32_set _ _ _ (c.tp bus v) 9
@[push_cast] theorem cpb_s43 (w : BitVec 64) : (cpuC c bus v).set 43 (.int .u64 (w.toNat : Int)) = cpuC { c with ret := w } bus v := r32_set _ _ _ (c.tp bus v) 10
@[push_cast] theorem cpb_s45 (u : AV) : (cpuC c bus v).set 45 u = cpuC c bus u := r32_set _ _ _ (c.tp bus v) 12
theorem cpb_sr (l : List (BitVec 32)) (hl : l.length = 32) : splice (cpuC c bus v) 1 (wds l) = cpuC { c with regs := rgOf l } bus v := r32_spr _ _ _ l hl
@[push_cast] theorem cpb_sf (f : IFile) : splice (cpuC c bus v) 33 f.cells = cpuC { c with f := f } bus v := r32_sp _ _ (c.tp bus v) 0 f.cells (by simp [IFile.cells, Kp.l])
end
section
variable (b : IBus)
@[push_cast] theorem bus_0 : b.cells[0]? = some (byt b.b) := rfl
@[push_cast] theorem bus_3 : b.cells[3]? = some (byt b.c.rx) := rfl
@[push_cast] theorem bus_8 : b.cells[8]? = some (.bool b.t.soft) := rfl
@[push_cast] theorem bus_t : partOf b.cells 6 (some 3) = some (.agg b.t.cells) := rfl
@[push_cast] theorem bus_c : partOf b.cells 1 (some 5) = some (.agg b.c.cells) := rfl
@[push_cast] theorem bus_len : b.cells.length = 11 := rfl
@[push_cast] theorem bus_all : partOf b.cells 0 (some 11) = some (.agg b.cells) := rfl
end
end Go.Ab
end
section
/- Time, calls, and for how long nobody is heard: the program's. -/
set_option linter.unusedSimpArgs false
set_option linter.unusedVariables false
set_option maxRecDepth 10000
namespace Go.Ab
open Go.Proofs
variable {G : Glo} {H : Heap}
theorem tNow_spec {p : Nat} {t : ITim} (ht : H p = some ⟨t.cells, 0⟩) (tick : BitVec 64) : Spec Tryz.prog G 127 [.ptr p 0, .int .u64 tick.toNat] H (Is (.int .u64 (t.now tick).toNat) H) := by
  have e : t.now tick = tick + t.off := rfl
  rw [e]
  refine Spec.is C127ok rfl ?_
  simp only [push_cast, simprocAttr, ht, ITim.cells]
theorem tUp_spec {p : Nat} {t : ITim} (ht : H p = some ⟨t.cells, 0⟩) (tick : BitVec 64) : Spec Tryz.prog G 125 [.ptr p 0, .int .u64 tick.toNat] H (Is (.bool (t.up tick)) H) := by
  have e : t.up tick = decide (t.mark.toNat ≤ (t.now tick).toNat) := rfl
  have hn := tNow_spec (G := G) ht tick
  generalize t.up tick = u at *
  refine Spec.is C125ok rfl ?_
  simp only [push_cast, simprocAttr, ht, ITim.cells]
  refine hn.to ?_
  simp only [push_cast, simprocAttr, ht, ITim.cells]
  rw [e]
  congr 1
  rw [Bool.eq_iff_iff]; simp only [decide_eq_true_eq]; omega
def ITim.left (t : ITim) (tick : BitVec 64) : BitVec 64 := if t.up tick then 0 else t.mark - t.now tick
theorem tLeft_spec {p : Nat} {t : ITim} (ht : H p = some ⟨t.cells, 0⟩) (tick : BitVec 64) : Spec Tryz.prog G 92 [.ptr p 0, .int .u64 tick.toNat] H (Is (.int .u64 (t.left tick).toNat) H) := by
  have e : t.left tick = if t.up tick then 0 else t.mark - t.now tick := rfl
  have hn := tNow_spec (G := G) ht tick
  have hu := tUp_spec (G := G) ht tick
  rw [e]
  clear e
  cases hU : t.up tick with
  | true =>
    rw [hU] at hu
    refine Spec.is C92ok rfl ?_
    simp only [push_cast, simprocAttr, ht, ITim.cells]
    refine hu.to ?_
    simp only [push_cast, simprocAttr, ht, ITim.cells]
    first | done | rfl
  | false =>
    rw [hU] at hu
    refine Spec.is C92ok rfl ?_
    simp only [push_cast, simprocAttr, ht, ITim.cells]
    refine hu.to ?_
    simp only [push_cast, simprocAttr, ht, ITim.cells]
    refine hn.to ?_
    simp only [push_cast, simprocAttr, ht, ITim.cells]
/-- Who calls. -/
def callsN (soft up ready : Bool) : BitVec 32 := (if soft then 8#32 else 0#32) ||| (if up then 128#32 else 0#32) ||| (if ready then 2048#32 else 0#32)
def IBus.calls (b : IBus) (tick : BitVec 64) : BitVec 32 := callsN b.t.soft (b.t.up tick) (decide (0 < b.c.rx.length))
section
variable {l : Plc} {c : ICpu} {M : IRam}
theorem Ready_spec (hm : MachAt H l c M) : Spec Tryz.prog G 126 [.ptr l.con 0] H (Is (.bool (decide (0 < c.bus.c.rx.length))) H) := by
  obtain ⟨v, hn, _⟩ := hm.hn
  have hl := fLen_spec (G := G) hm.hf
  refine Spec.is C126ok rfl ?_
  simp only [push_cast, simprocAttr, hn]
  refine hl.to ?_
  simp only [push_cast, simprocAttr]
  congr 1
  rw [Bool.eq_iff_iff]; simp
theorem busCalls_spec (hm : MachAt H l c M) (tick : BitVec 64) : Spec Tryz.prog G 90 [.ptr l.bus 0, .int .u64 tick.toNat] H (Is (.int .u32 (c.bus.calls tick).toNat) H) := by
  have hb := hm.hb
  have ht := hm.ht
  have hu := tUp_spec (G := G) hm.ht tick
  have hr := Ready_spec (G := G) hm
  have e : c.bus.calls tick = callsN c.bus.t.soft (c.bus.t.up tick) (decide (0 < c.bus.c.rx.length)) := rfl
  rw [e]
  clear e
  have hts : ∀ s, c.bus.t.soft = s → H l.tim = some ⟨[.int .u64 (c.bus.t.off.toNat : Int), .int .u64 (c.bus.t.mark.toNat : Int), .bool s], 0⟩ := fun s e => by rw [ht, ITim.cells, e]
  generalize c.bus.t.up tick = u at *
  generalize decide (0 < c.bus.c.rx.length) = rd at *
  cases hs : c.bus.t.soft <;>
  · have ht2 := hts _ hs
    refine Spec.is C90ok rfl ?_
    simp only [push_cast, simprocAttr, hb, ht2]
    refine hu.to ?_
    cases u <;>
    · simp only [push_cast, simprocAttr, hb]
      refine hr.to ?_
      cases rd <;>
      · first | (simp only [push_cast, simprocAttr]; done) | (simp only [push_cast, simprocAttr]; rfl) | rfl
theorem cBus_spec (hm : MachAt H l c M) : Spec Tryz.prog G 23 [.ptr l.p 0] H (Is (.ptr l.bus 0) H) := by
  obtain ⟨v, hc, _⟩ := hm.hc
  refine Spec.is C23ok rfl ?_
  simp only [push_cast, simprocAttr, hc]
theorem bTimer_spec (hm : MachAt H l c M) : Spec Tryz.prog G 24 [.ptr l.bus 0] H (Is (.ptr l.tim 0) H) := by
  have hb := hm.hb
  refine Spec.is C24ok rfl ?_
  simp only [push_cast, simprocAttr, hb]
theorem bRam_spec (hm : MachAt H l c M) : Spec Tryz.prog G 28 [.ptr l.bus 0] H (Is (.ptr l.ram.p 0) H) := by
  have hb := hm.hb
  refine Spec.is C28ok rfl ?_
  simp only [push_cast, simprocAttr, hb]
theorem bCon_spec (hm : MachAt H l c M) : Spec Tryz.prog G 31 [.ptr l.bus 0] H (Is (.ptr l.con 0) H) := by
  have hb := hm.hb
  refine Spec.is C31ok rfl ?_
  simp only [push_cast, simprocAttr, hb]
theorem bOff_spec (hm : MachAt H l c M) : Spec Tryz.prog G 36 [.ptr l.bus 0] H (Is (.tup [.int .u32 c.bus.code.toNat, .bool c.bus.off]) H) := by
  have hb := hm.hb
  refine Spec.is C36ok rfl ?_
  simp only [push_cast, simprocAttr, hb]
/-- When the next byte comes. -/
def ICon.next (n : ICon) : BitVec 64 × Bool := if n.came < n.l.length then ((n.l.getD n.came IArr.zero).tick, true) else (0, false)
theorem Next_spec (hm : MachAt H l c M) : Spec Tryz.prog G 91 [.ptr l.con 0] H (Is (.tup [.int .u64 (c.bus.c.next).1.toNat, .bool (c.bus.c.next).2]) H) := by
  obtain ⟨v, hn, _⟩ := hm.hn
  have hcm := hm.came
  have hl := hm.hl
  have e : c.bus.c.next = if c.bus.c.came < c.bus.c.l.length then ((c.bus.c.l.getD c.bus.c.came IArr.zero).tick, true) else (0, false) := rfl
  rw [e]
  clear e
  by_cases hlt : c.bus.c.came < c.bus.c.l.length
  · have z : ((c.bus.c.came : Int) == (c.bus.c.l.length : Int)) = false := by rw [beq_eq_false_iff_ne]; omega
    have z2 : (c.bus.c.came = c.bus.c.l.length) = False := by simp; omega
    rw [if_pos hlt]
    refine Spec.is C91ok rfl ?_
    simp (disch := omega) only [push_cast, simprocAttr, wrap_i64, toNat_ofInt64, Nat.min_eq_left, Int.toNat_of_nonneg, hn, z, z2, hlt]
  · have z : ((c.bus.c.came : Int) == (c.bus.c.l.length : Int)) = true := by rw [beq_iff_eq]; omega
    have z2 : (c.bus.c.came = c.bus.c.l.length) = True := by simp; omega
    rw [if_neg hlt]
    refine Spec.is C91ok rfl ?_
    simp only [push_cast, simprocAttr, hn, z, z2]
    first | done | rfl
end
end Go.Ab
end
section
/- For how long nobody is heard: the program's. -/
set_option linter.unusedSimpArgs false
set_option linter.unusedVariables false
set_option maxRecDepth 10000
namespace Go.Ab
open Go.Proofs
variable {G : Glo} {H : Heap}
def wakesN (k : Kp) (calls : BitVec 32) : Bool := decide (calls &&& k.ie &&& 2184#32 ≠ 0#32)
theorem kp_wds (k : Kp) : wds k.l = [.int .u32 (k.st.toNat : Int), .int .u32 (k.ie.toNat : Int), .int .u32 (k.tv.toNat : Int), .int .u32 (k.sc.toNat : Int), .int .u32 (k.ep.toNat : Int), .int .u32 (k.ca.toNat : Int), .int .u32 (k.tl.toNat : Int)] := rfl
theorem bne32 (x : BitVec 32) : ((x.toNat : Int) != 0) = decide (x ≠ 0#32) := by
  rw [Bool.eq_iff_iff]; simp only [bne_iff_ne, decide_eq_true_eq, ne_eq]
  constructor
  · intro h e; rw [e] at h; exact h rfl
  · intro h e; exact h (BitVec.eq_of_toNat_eq (by simpa using e))
theorem beq32 (x : BitVec 32) : ((x.toNat : Int) == 0) = decide (x = 0#32) := by
  have := bne32 x
  rw [bne] at this
  cases h : ((x.toNat : Int) == 0) <;> simp_all
theorem bvz (x : BitVec 32) : ((x.toNat : Int) = 0) = (x = 0#32) := by
  rw [eq_iff_iff]
  constructor
  · intro h; exact BitVec.eq_of_toNat_eq (by simpa using h)
  · rintro rfl; rfl
theorem Wakes_spec (k : Kp) (calls : BitVec 32) : Spec Tryz.prog G 93 [.agg (wds k.l), .int .u32 calls.toNat] H (Is (.bool (wakesN k calls)) H) := by
  have e : wakesN k calls = decide (calls &&& k.ie &&& 2184#32 ≠ 0#32) := rfl
  rw [e, kp_wds]
  refine Spec.is C93ok rfl ?_
  simp only [push_cast, simprocAttr, bne32]
/-- For how long nobody can be heard. -/
def neverB : BitVec 64 := 18446744073709551615#64
theorem neverB_v : (neverB.toNat : Int) = 18446744073709551615 := rfl
def minB (a b : BitVec 64) : BitVec 64 := if b.toNat < a.toNat then b else a
theorem minB_toNat (a b : BitVec 64) : (minB a b).toNat = min a.toNat b.toNat := by unfold minB; split <;> omega
theorem minB_v (a b : BitVec 64) : ((minB a b).toNat : Int) = min (a.toNat : Int) (b.toNat : Int) := by rw [minB_toNat]; omega
theorem min_n (b : BitVec 64) : ((minB neverB b).toNat : Int) = min (18446744073709551615 : Int) (b.toNat : Int) := by rw [minB_v, neverB_v]
theorem subB_v (a b : BitVec 64) : ((a - minB a b).toNat : Int) = (a.toNat : Int) - min (a.toNat : Int) (b.toNat : Int) := by
  have h := minB_toNat a b
  rw [BitVec.toNat_sub_of_le (by rw [BitVec.le_def]; omega)]
  omega
def mI (a b : Int) : Int := if b < a then b else a
def subI (a b : BitVec 64) : Int := ((a - BitVec.ofInt 64 (if b.toNat < a.toNat then (b.toNat : Int) else (a.toNat : Int))).toNat : Int)
theorem subI_v (a b : BitVec 64) : subI a b = (a.toNat : Int) - min (a.toNat : Int) (b.toNat : Int) := by
  have h : (if b.toNat < a.toNat then (b.toNat : Int) else (a.toNat : Int)) = ((minB a b).toNat : Int) := by rw [minB_toNat]; split <;> omega
  have e : BitVec.ofInt 64 ((minB a b).toNat : Int) = minB a b := by rw [BitVec.ofInt_natCast]; simp
  rw [subI, h, e, subB_v]
theorem mI_v (a b : Int) : mI a b = min a b := by unfold mI; split <;> omega
section
variable {l : Plc} {c : ICpu} {M : IRam}
theorem quiet_off (hm : MachAt H l c M) (h8 : c.f.k.st &&& 8#32 = 0#32) : Spec Tryz.prog G 60 [.ptr l.p 0] H (Is (.int .u64 18446744073709551615) H) := by
  obtain ⟨v, hc, _⟩ := hm.hc
  have hk := kp_wds c.f.k
  refine Spec.is C60ok rfl ?_
  simp only [push_cast, simprocAttr, hc, hk]
  intro c3 hc3
  simp only [push_cast, simprocAttr, bvz, h8, hc]
  first | exact ⟨rfl, by rw [era_none hc3]; exact Sub.refl H⟩ | (rw [era_none hc3]; simp only [push_cast, simprocAttr])
theorem quiet_b (hm : MachAt H l c M) {nv : Int} (hnv : nv = 18446744073709551615) (h8 : ¬ c.f.k.st &&& 8#32 = 0#32) (h11 : c.f.k.ie &&& 2048#32 = 0#32) (h7 : c.f.k.ie &&& 128#32 = 0#32) : Spec Tryz.prog G 60 [.ptr l.p 0] H (Is (.int .u64 (if wakesN c.f.k (c.bus.calls c.tick) then 0 else nv)) H) := by
  obtain ⟨v, hc, _⟩ := hm.hc
  have hB := cBus_spec (G := G) hm
  have hC := busCalls_spec (G := G) hm c.tick
  have hCon := bCon_spec (G := G) hm
  have hNx := Next_spec (G := G) hm
  have hT := bTimer_spec (G := G) hm
  have hL := tLeft_spec (G := G) hm.ht c.tick
  have hW := Wakes_spec (G := G) (H := H) c.f.k (c.bus.calls c.tick)
  have hk := kp_wds c.f.k
  rw [hk] at hW
  generalize c.bus.calls c.tick = calls at *
  generalize c.bus.t.left c.tick = lf at *
  generalize c.bus.c.next = nx at *
  obtain ⟨at_, ok⟩ := nx
  simp only at hNx
  generalize wakesN c.f.k calls = wk at *
  refine Spec.is C60ok rfl ?_
  simp only [push_cast, simprocAttr, hc, hk]
  intro c3 hc3
  rw [era_none hc3]
  simp only [push_cast, simprocAttr, bvz, h8, hc]
  refine hB.to ?_
  simp only [push_cast, simprocAttr, hc]
  refine hC.to ?_
  simp only [push_cast, simprocAttr, hc]
  rw [← hnv]
  refine hB.to ?_
  simp only [push_cast, simprocAttr, hc]
  refine hCon.to ?_
  simp only [push_cast, simprocAttr, hc]
  refine hNx.to ?_
  cases ok <;>
  · simp only [push_cast, simprocAttr, bvz, h11, h7, hc]
    refine hW.to ?_
    cases wk <;>
    · simp only [push_cast, simprocAttr, mI, subI]
theorem quiet_c (hm : MachAt H l c M) {nv : Int} (hnv : nv = 18446744073709551615) (h8 : ¬ c.f.k.st &&& 8#32 = 0#32) (h11 : c.f.k.ie &&& 2048#32 = 0#32) (h7 : ¬ c.f.k.ie &&& 128#32 = 0#32) : Spec Tryz.prog G 60 [.ptr l.p 0] H (Is (.int .u64 (if wakesN c.f.k (c.bus.calls c.tick) then 0 else mI nv ((c.bus.t.left c.tick).toNat : Int))) H) := by
  obtain ⟨v, hc, _⟩ := hm.hc
  have hB := cBus_spec (G := G) hm
  have hC := busCalls_spec (G := G) hm c.tick
  have hCon := bCon_spec (G := G) hm
  have hNx := Next_spec (G := G) hm
  have hT := bTimer_spec (G := G) hm
  have hL := tLeft_spec (G := G) hm.ht c.tick
  have hW := Wakes_spec (G := G) (H := H) c.f.k (c.bus.calls c.tick)
  have hk := kp_wds c.f.k
  rw [hk] at hW
  generalize c.bus.calls c.tick = calls at *
  generalize c.bus.t.left c.tick = lf at *
  generalize c.bus.c.next = nx at *
  obtain ⟨at_, ok⟩ := nx
  simp only at hNx
  generalize wakesN c.f.k calls = wk at *
  refine Spec.is C60ok rfl ?_
  simp only [push_cast, simprocAttr, hc, hk]
  intro c3 hc3
  rw [era_none hc3]
  simp only [push_cast, simprocAttr, bvz, h8, hc]
  refine hB.to ?_
  simp only [push_cast, simprocAttr, hc]
  refine hC.to ?_
  simp only [push_cast, simprocAttr, hc]
  rw [← hnv]
  refine hB.to ?_
  simp only [push_cast, simprocAttr, hc]
  refine hCon.to ?_
  simp only [push_cast, simprocAttr, hc]
  refine hNx.to ?_
  cases ok <;>
  · simp only [push_cast, simprocAttr, bvz, h11, h7, hc]
    refine hB.to ?_
    simp only [push_cast, simprocAttr, hc]
    refine hT.to ?_
    simp only [push_cast, simprocAttr, hc]
    refine hL.to ?_
    simp only [push_cast, simprocAttr, hc]
    refine hW.to ?_
    cases wk <;>
    · simp only [push_cast, simprocAttr, mI, subI]
theorem quiet_d (hm : MachAt H l c M) {nv : Int} (hnv : nv = 18446744073709551615) (h8 : ¬ c.f.k.st &&& 8#32 = 0#32) (hok : c.bus.c.next.2 = false) (h7 : c.f.k.ie &&& 128#32 = 0#32) : Spec Tryz.prog G 60 [.ptr l.p 0] H (Is (.int .u64 (if wakesN c.f.k (c.bus.calls c.tick) then 0 else nv)) H) := by
  obtain ⟨v, hc, _⟩ := hm.hc
  have hB := cBus_spec (G := G) hm
  have hC := busCalls_spec (G := G) hm c.tick
  have hCon := bCon_spec (G := G) hm
  have hNx := Next_spec (G := G) hm
  have hT := bTimer_spec (G := G) hm
  have hL := tLeft_spec (G := G) hm.ht c.tick
  have hW := Wakes_spec (G := G) (H := H) c.f.k (c.bus.calls c.tick)
  have hk := kp_wds c.f.k
  rw [hk] at hW
  generalize c.bus.calls c.tick = calls at *
  generalize c.bus.t.left c.tick = lf at *
  generalize c.bus.c.next = nx at *
  obtain ⟨at_, ok⟩ := nx
  simp only at hNx hok
  generalize wakesN c.f.k calls = wk at *
  refine Spec.is C60ok rfl ?_
  simp only [push_cast, simprocAttr, hc, hk]
  intro c3 hc3
  rw [era_none hc3]
  simp only [push_cast, simprocAttr, bvz, h8, hc]
  refine hB.to ?_
  simp only [push_cast, simprocAttr, hc]
  refine hC.to ?_
  simp only [push_cast, simprocAttr, hc]
  rw [← hnv]
  refine hB.to ?_
  simp only [push_cast, simprocAttr, hc]
  refine hCon.to ?_
  simp only [push_cast, simprocAttr, hc]
  refine hNx.to ?_
  subst hok
  simp only [push_cast, simprocAttr, bvz, h7, hc]
  refine hW.to ?_
  cases wk <;>
  · simp only [push_cast, simprocAttr, mI, subI]
theorem quiet_e (hm : MachAt H l c M) {nv : Int} (hnv : nv = 18446744073709551615) (h8 : ¬ c.f.k.st &&& 8#32 = 0#32) (hok : c.bus.c.next.2 = false) (h7 : ¬ c.f.k.ie &&& 128#32 = 0#32) : Spec Tryz.prog G 60 [.ptr l.p 0] H (Is (.int .u64 (if wakesN c.f.k (c.bus.calls c.tick) then 0 else mI nv ((c.bus.t.left c.tick).toNat : Int))) H) := by
  obtain ⟨v, hc, _⟩ := hm.hc
  have hB := cBus_spec (G := G) hm
  have hC := busCalls_spec (G := G) hm c.tick
  have hCon := bCon_spec (G := G) hm
  have hNx := Next_spec (G := G) hm
  have hT := bTimer_spec (G := G) hm
  have hL := tLeft_spec (G := G) hm.ht c.tick
  have hW := Wakes_spec (G := G) (H := H) c.f.k (c.bus.calls c.tick)
  have hk := kp_wds c.f.k
  rw [hk] at hW
  generalize c.bus.calls c.tick = calls at *
  generalize c.bus.t.left c.tick = lf at *
  generalize c.bus.c.next = nx at *
  obtain ⟨at_, ok⟩ := nx
  simp only at hNx hok
  generalize wakesN c.f.k calls = wk at *
  refine Spec.is C60ok rfl ?_
  simp only [push_cast, simprocAttr, hc, hk]
  intro c3 hc3
  rw [era_none hc3]
  simp only [push_cast, simprocAttr, bvz, h8, hc]
  refine hB.to ?_
  simp only [push_cast, simprocAttr, hc]
  refine hC.to ?_
  simp only [push_cast, simprocAttr, hc]
  rw [← hnv]
  refine hB.to ?_
  simp only [push_cast, simprocAttr, hc]
  refine hCon.to ?_
  simp only [push_cast, simprocAttr, hc]
  refine hNx.to ?_
  subst hok
  simp only [push_cast, simprocAttr, bvz, h7, hc]
  refine hB.to ?_
  simp only [push_cast, simprocAttr, hc]
  refine hT.to ?_
  simp only [push_cast, simprocAttr, hc]
  refine hL.to ?_
  simp only [push_cast, simprocAttr, hc]
  refine hW.to ?_
  cases wk <;>
  · simp only [push_cast, simprocAttr, mI, subI]
theorem quiet_f (hm : MachAt H l c M) {nv : Int} (hnv : nv = 18446744073709551615) (h8 : ¬ c.f.k.st &&& 8#32 = 0#32) (hok : c.bus.c.next.2 = true) (h11 : ¬ c.f.k.ie &&& 2048#32 = 0#32) (h7 : c.f.k.ie &&& 128#32 = 0#32) : Spec Tryz.prog G 60 [.ptr l.p 0] H (Is (.int .u64 (if wakesN c.f.k (c.bus.calls c.tick) then 0 else subI (c.bus.c.next).1 c.tick)) H) := by
  obtain ⟨v, hc, _⟩ := hm.hc
  have hB := cBus_spec (G := G) hm
  have hC := busCalls_spec (G := G) hm c.tick
  have hCon := bCon_spec (G := G) hm
  have hNx := Next_spec (G := G) hm
  have hT := bTimer_spec (G := G) hm
  have hL := tLeft_spec (G := G) hm.ht c.tick
  have hW := Wakes_spec (G := G) (H := H) c.f.k (c.bus.calls c.tick)
  have hk := kp_wds c.f.k
  rw [hk] at hW
  generalize c.bus.calls c.tick = calls at *
  generalize c.bus.t.left c.tick = lf at *
  generalize c.bus.c.next = nx at *
  obtain ⟨at_, ok⟩ := nx
  simp only at hNx hok
  generalize wakesN c.f.k calls = wk at *
  refine Spec.is C60ok rfl ?_
  simp only [push_cast, simprocAttr, hc, hk]
  intro c3 hc3
  rw [era_none hc3]
  simp only [push_cast, simprocAttr, bvz, h8, hc]
  refine hB.to ?_
  simp only [push_cast, simprocAttr, hc]
  refine hC.to ?_
  simp only [push_cast, simprocAttr, hc]
  rw [← hnv]
  refine hB.to ?_
  simp only [push_cast, simprocAttr, hc]
  refine hCon.to ?_
  simp only [push_cast, simprocAttr, hc]
  refine hNx.to ?_
  subst hok
  simp only [push_cast, simprocAttr, bvz, h11, h7, hc]
  refine hW.to ?_
  cases wk <;>
  · simp only [push_cast, simprocAttr, mI, subI]
theorem quiet_g (hm : MachAt H l c M) {nv : Int} (hnv : nv = 18446744073709551615) (h8 : ¬ c.f.k.st &&& 8#32 = 0#32) (hok : c.bus.c.next.2 = true) (h11 : ¬ c.f.k.ie &&& 2048#32 = 0#32) (h7 : ¬ c.f.k.ie &&& 128#32 = 0#32) : Spec Tryz.prog G 60 [.ptr l.p 0] H (Is (.int .u64 (if wakesN c.f.k (c.bus.calls c.tick) then 0 else mI (subI (c.bus.c.next).1 c.tick) ((c.bus.t.left c.tick).toNat : Int))) H) := by
  obtain ⟨v, hc, _⟩ := hm.hc
  have hB := cBus_spec (G := G) hm
  have hC := busCalls_spec (G := G) hm c.tick
  have hCon := bCon_spec (G := G) hm
  have hNx := Next_spec (G := G) hm
  have hT := bTimer_spec (G := G) hm
  have hL := tLeft_spec (G := G) hm.ht c.tick
  have hW := Wakes_spec (G := G) (H := H) c.f.k (c.bus.calls c.tick)
  have hk := kp_wds c.f.k
  rw [hk] at hW
  generalize c.bus.calls c.tick = calls at *
  generalize c.bus.t.left c.tick = lf at *
  generalize c.bus.c.next = nx at *
  obtain ⟨at_, ok⟩ := nx
  simp only at hNx hok
  generalize wakesN c.f.k calls = wk at *
  refine Spec.is C60ok rfl ?_
  simp only [push_cast, simprocAttr, hc, hk]
  intro c3 hc3
  rw [era_none hc3]
  simp only [push_cast, simprocAttr, bvz, h8, hc]
  refine hB.to ?_
  simp only [push_cast, simprocAttr, hc]
  refine hC.to ?_
  simp only [push_cast, simprocAttr, hc]
  rw [← hnv]
  refine hB.to ?_
  simp only [push_cast, simprocAttr, hc]
  refine hCon.to ?_
  simp only [push_cast, simprocAttr, hc]
  refine hNx.to ?_
  subst hok
  simp only [push_cast, simprocAttr, bvz, h11, h7, hc]
  refine hB.to ?_
  simp only [push_cast, simprocAttr, hc]
  refine hT.to ?_
  simp only [push_cast, simprocAttr, hc]
  refine hL.to ?_
  simp only [push_cast, simprocAttr, hc]
  refine hW.to ?_
  cases wk <;>
  · simp only [push_cast, simprocAttr, mI, subI]
/-- The time of quiet. -/
def ICpu.quiet (c : ICpu) : Int :=
  if c.f.k.st &&& 8#32 = 0#32 then 18446744073709551615 else if wakesN c.f.k (c.bus.calls c.tick) then 0 else
    let a : Int := if c.bus.c.next.2 = true ∧ ¬ c.f.k.ie &&& 2048#32 = 0#32 then subI c.bus.c.next.1 c.tick else 18446744073709551615
    if c.f.k.ie &&& 128#32 = 0#32 then a else mI a ((c.bus.t.left c.tick).toNat : Int)
theorem quiet_spec (hm : MachAt H l c M) : Spec Tryz.prog G 60 [.ptr l.p 0] H (Is (.int .u64 c.quiet) H) := by
  obtain ⟨nv, hnv⟩ : ∃ nv : Int, nv = 18446744073709551615 := ⟨_, rfl⟩
  unfold ICpu.quiet
  by_cases h8 : c.f.k.st &&& 8#32 = 0#32
  · rw [if_pos h8]; exact quiet_off hm h8
  rw [if_neg h8, ← hnv]
  by_cases h7 : c.f.k.ie &&& 128#32 = 0#32
  · rw [if_pos h7]
    by_cases h11 : c.f.k.ie &&& 2048#32 = 0#32
    · rw [if_neg (c := c.bus.c.next.2 = true ∧ ¬ c.f.k.ie &&& 2048#32 = 0#32) (fun h => h.2 h11)]; exact quiet_b hm hnv h8 h11 h7
    · by_cases hok : c.bus.c.next.2 = true
      · rw [if_pos (c := c.bus.c.next.2 = true ∧ ¬ c.f.k.ie &&& 2048#32 = 0#32) ⟨hok, h11⟩]; exact quiet_f hm hnv h8 hok h11 h7
      · rw [Bool.not_eq_true] at hok; rw [if_neg (c := c.bus.c.next.2 = true ∧ ¬ c.f.k.ie &&& 2048#32 = 0#32) (by simp [hok])]; exact quiet_d hm hnv h8 hok h7
  · rw [if_neg h7]
    by_cases h11 : c.f.k.ie &&& 2048#32 = 0#32
    · rw [if_neg (c := c.bus.c.next.2 = true ∧ ¬ c.f.k.ie &&& 2048#32 = 0#32) (fun h => h.2 h11)]; exact quiet_c hm hnv h8 h11 h7
    · by_cases hok : c.bus.c.next.2 = true
      · rw [if_pos (c := c.bus.c.next.2 = true ∧ ¬ c.f.k.ie &&& 2048#32 = 0#32) ⟨hok, h11⟩]; exact quiet_g hm hnv h8 hok h11 h7
      · rw [Bool.not_eq_true] at hok; rw [if_neg (c := c.bus.c.next.2 = true ∧ ¬ c.f.k.ie &&& 2048#32 = 0#32) (by simp [hok])]; exact quiet_e hm hnv h8 hok h7
end
end Go.Ab
end
section
/- The document's memory: asked, and loaded. -/
set_option linter.unusedSimpArgs false
set_option linter.unusedVariables false
set_option maxRecDepth 10000
namespace Go.Ab
open Go.Proofs
variable {G : Glo} {h : Heap}
theorem rWidth_spec (n : Int) : Spec Tryz.prog G 106 [.int .i64 n] h (Is (.bool (n == 1 || n == 2 || n == 4)) h) := by
  refine Spec.is C106ok rfl ?_
  simp only [push_cast, simprocAttr]
theorem rHas_spec (b : List (BitVec 8)) (addr : BitVec 32) (n : Int) (hb : b.length ≤ 65536) (hn : n ≤ 9223372036854775807) (hn0 : -9223372036854775808 ≤ n) : Spec Tryz.prog G 107 [byt b, .int .u32 addr.toNat, .int .i64 n] h (Is (.bool (hasN b.length addr n)) h) := by
  have hN : hasN b.length addr n = (decide (1 ≤ n) && decide (n ≤ b.length) && decide (2147483648 ≤ addr.toNat) && decide ((addr.toNat : Int) - 2147483648 ≤ b.length - n)) := rfl
  generalize hasN b.length addr n = N at hN ⊢
  have hlt := addr.isLt
  refine Spec.is C107ok rfl ?_
  simp (disch := omega) only [push_cast, simprocAttr, wrap_i64, toNat_ofInt64, Nat.min_eq_left, Int.toNat_of_nonneg, byt]
  rw [hN]
  by_cases h1 : 1 ≤ n
  · rw [wrap_i64 (by omega) (by omega)]
    (first | rfl | (congr 1; done) | (congr 1; rw [Bool.eq_iff_iff]; simp only [Bool.and_eq_true, Bool.or_eq_true, Bool.not_eq_true', decide_eq_true_eq, decide_eq_false_iff_not, Bool.false_eq_true, true_and, and_true]; first | omega | grind))
  · have h2 : ¬ n ≥ 1 := h1
    simp [h1, h2]
theorem rAsked_spec (b : List (BitVec 8)) (addr : BitVec 32) (n : Int) (hb : b.length ≤ 65536) : Spec Tryz.prog G 72 [byt b, .int .u32 addr.toNat, .int .i64 n] h (Is (.int .i64 (askedN b.length addr n)) h) := by
  by_cases hn : n = 1 ∨ n = 2 ∨ n = 4
  · obtain ⟨t1, t2⟩ := tmod_124 addr n hn
    have hN : askedN b.length addr n = if (addr.toNat : Int) % n ≠ 0 then 5 else if hasN b.length addr n then 0 else 6 := by rw [askedN, if_neg (fun q => q hn)]
    have e0 : ((n == 1 || n == 2) || n == 4) = true := by rcases hn with rfl | rfl | rfl <;> rfl
    have hW := rWidth_spec (G := G) (h := h) n
    rw [e0] at hW
    have hlt := addr.isLt
    have hne : (n = 0) = False := by simp; omega
    have t3 : (addr.toNat : Int).tmod n = (addr.toNat : Int) % n := Int.tmod_eq_emod_of_nonneg (by omega)
    rw [hN]
    refine Spec.is C72ok rfl ?_
    simp only [push_cast, simprocAttr]
    refine hW.to ?_
    by_cases hm : (addr.toNat : Int) % n = 0
    · simp only [push_cast, simprocAttr, t3, hne, hm]
      refine (rHas_spec b addr n hb (by omega) (by omega)).to ?_
      cases hH : hasN b.length addr n
      · simp only [push_cast, simprocAttr]
      · simp only [push_cast, simprocAttr]
    · simp only [push_cast, simprocAttr, t3, hne, hm]
  · have hN : askedN b.length addr n = 2 := by rw [askedN, if_pos hn]
    have e0 : ((n == 1 || n == 2) || n == 4) = false := by simp; omega
    have hW := rWidth_spec (G := G) (h := h) n
    rw [e0] at hW
    rw [hN]
    refine Spec.is C72ok rfl ?_
    simp only [push_cast, simprocAttr]
    refine hW.to ?_
    simp only [push_cast, simprocAttr]
theorem rLoad_spec (M : IRam) (addr : BitVec 32) (n : Nat) (hb : M.b.length ≤ 65536) (hn : n = 1 ∨ n = 2 ∨ n = 4) (hh : hasN M.b.length addr n = true) : Spec Tryz.prog G 74 [byt M.b, .int .u32 addr.toNat, .int .i64 n] h (Is (.int .u32 (M.load addr n).toNat) h) := by
  have hlt := addr.isLt
  have hH := hh
  simp only [hasN, Bool.and_eq_true, decide_eq_true_eq] at hH
  obtain ⟨k, hk⟩ : ∃ k, addr.toNat - 2147483648 = k := ⟨_, rfl⟩
  have hk' : (addr.toNat : Int) - 2147483648 = k := by omega
  have q1 : (k : Int) ≤ k + n := by omega
  have q3 : (k : Int) + n ≤ M.b.length := by omega
  have q4 : ((k : Int) + n).toNat - k = n := by omega
  have q5 : List.take n (List.drop k (bys M.b)) = bys ((M.b.drop k).take n) := by rw [bys_drop, bys_take]
  have q6 : ((M.b.drop k).take n).length = n := by simp; omega
  have hl : M.load addr n = BitVec.ofNat 32 (leN ((M.b.drop k).take n)) := by rw [IRam.load, hk]
  rw [hl]
  refine Spec.is C74ok rfl ?_
  simp (disch := omega) only [push_cast, simprocAttr, wrap_i64, toNat_ofInt64, Nat.min_eq_left, Int.toNat_of_nonneg, byt, hk', q4, q5]
  have hS := rNumber_spec (G := G) (h := h) ((M.b.drop k).take n) (by omega)
  rw [byt, q6] at hS
  refine ⟨by omega, hS.to ?_⟩
  simp only [push_cast, simprocAttr]
end Go.Ab
end
section
/- Contracts: small ones of blocks. -/
set_option linter.unusedSimpArgs false
set_option linter.unusedVariables false
namespace Go.Ab
open Go.Proofs
variable {G : Glo} {h : Heap}
theorem rHas7_spec (n : Int) : Spec Tryz.prog G 100 [.int .i64 n] h (Is (.bool (decide (19 ≤ n) && decide (n ≤ 37))) h) := by
  refine Spec.is C100ok rfl ?_
  simp only [push_cast, simprocAttr]
theorem rHas8_spec (n : Int) : Spec Tryz.prog G 101 [.int .i64 n] h (Is (.bool (decide (50 ≤ n) && decide (n ≤ 57))) h) := by
  refine Spec.is C101ok rfl ?_
  simp only [push_cast, simprocAttr]
theorem aHas_spec (n : Int) : Spec Tryz.prog G 157 [.int .i64 n] h (Is (.bool (decide (19 ≤ n) && decide (n ≤ 37))) h) := by
  refine Spec.is C157ok rfl ?_
  simp only [push_cast, simprocAttr]
theorem mHas_spec (n : Int) : Spec Tryz.prog G 158 [.int .i64 n] h (Is (.bool (decide (50 ≤ n) && decide (n ≤ 57))) h) := by
  refine Spec.is C158ok rfl ?_
  simp only [push_cast, simprocAttr]
theorem rReckons_spec (n : Int) : Spec Tryz.prog G 65 [.int .i64 n] h (Is (.bool (reckonsN n)) h) := by
  refine Spec.is C65ok rfl ?_
  simp only [push_cast, simprocAttr]
  refine (rHas7_spec n).to ?_
  simp only [push_cast, simprocAttr, reckonsN]
  refine ⟨fun h1 => (rHas8_spec n).to ?_, fun h1 => ?_⟩
  · simp only [push_cast, simprocAttr]
    rw [h1]; rfl
  · (first | rfl | (congr 1; done) | (congr 1; rw [Bool.eq_iff_iff]; simp only [Bool.and_eq_true, Bool.or_eq_true, Bool.not_eq_true', decide_eq_true_eq, decide_eq_false_iff_not, Bool.false_eq_true, true_and, and_true]; first | omega | grind))
theorem Reckons_spec (n : Int) : Spec Tryz.prog G 133 [.int .i64 n] h (Is (.bool (reckonsN n)) h) := by
  refine Spec.is C133ok rfl ?_
  simp only [push_cast, simprocAttr]
  refine (aHas_spec n).to ?_
  simp only [push_cast, simprocAttr, reckonsN]
  refine ⟨fun h1 => (mHas_spec n).to ?_, fun h1 => ?_⟩
  · simp only [push_cast, simprocAttr]
    rw [h1]; rfl
  · (first | rfl | (congr 1; done) | (congr 1; rw [Bool.eq_iff_iff]; simp only [Bool.and_eq_true, Bool.or_eq_true, Bool.not_eq_true', decide_eq_true_eq, decide_eq_false_iff_not, Bool.false_eq_true, true_and, and_true]; first | omega | grind))
theorem rLoads_spec (n : Int) : Spec Tryz.prog G 67 [.int .i64 n] h (Is (.int .i64 (loadsN n)) h) := by
  refine Spec.is C67ok rfl ?_
  simp only [push_cast, simprocAttr, loadsN]
  grind
theorem Loads_spec (n : Int) : Spec Tryz.prog G 129 [.int .i64 n] h (Is (.int .i64 (loadsN n)) h) := by
  refine Spec.is C129ok rfl ?_
  simp only [push_cast, simprocAttr, loadsN]
  (repeat' (first | apply And.intro | intro _)) <;> simp_all
theorem rStores_spec (n : Int) : Spec Tryz.prog G 68 [.int .i64 n] h (Is (.int .i64 (storesN n)) h) := by
  refine Spec.is C68ok rfl ?_
  simp only [push_cast, simprocAttr, storesN]
  grind
theorem Stores_spec (n : Int) : Spec Tryz.prog G 132 [.int .i64 n] h (Is (.int .i64 (storesN n)) h) := by
  refine Spec.is C132ok rfl ?_
  simp only [push_cast, simprocAttr, storesN]
  grind
theorem Valued_spec (n : Int) : Spec Tryz.prog G 164 [.int .i64 n] h (Is (.bool (decide (1 ≤ n) && decide (n ≤ 4))) h) := by
  refine Spec.is C164ok rfl ?_
  simp only [push_cast, simprocAttr]
theorem rValue_spec (b : IBk) (n ahead : Int) : Spec Tryz.prog G 66 [.agg b.cells, .int .i64 n, .int .i64 ahead] h (Is (.bool (b.val n ahead)) h) := by
  refine Spec.is C66ok rfl ?_
  simp only [push_cast, simprocAttr]
  refine ⟨fun h1 => ?_, fun h1 => ?_⟩
  · have e : n.toNat < b.ops.length := by omega
    refine ⟨by omega, e, fun h2 => ⟨by omega, e, ?_⟩, fun h2 => ?_⟩
    all_goals simp only [IBk.val, IBk.op]
    · (first | rfl | (congr 1; done) | (congr 1; rw [Bool.eq_iff_iff]; simp only [Bool.and_eq_true, Bool.or_eq_true, Bool.not_eq_true', decide_eq_true_eq, decide_eq_false_iff_not, Bool.false_eq_true, true_and, and_true]; first | omega | grind))
    · (first | rfl | (congr 1; done) | (congr 1; rw [Bool.eq_iff_iff]; simp only [Bool.and_eq_true, Bool.or_eq_true, Bool.not_eq_true', decide_eq_true_eq, decide_eq_false_iff_not, Bool.false_eq_true, true_and, and_true]; first | omega | grind))
  · simp only [IBk.val]; rw [h1]; rfl
theorem value_spec (b : IBk) (n ahead : Int) : Spec Tryz.prog G 149 [.agg [bkP b], .int .i64 n, .int .i64 ahead] h (Is (.bool (b.val n ahead)) h) := by
  refine Spec.is C149ok rfl ?_
  simp only [push_cast, simprocAttr, bkP]
  refine ⟨fun h1 => ⟨by omega, by omega, ?_⟩, fun h1 => ?_⟩
  · refine (Valued_spec _).to ?_
    simp only [push_cast, simprocAttr]
    simp only [IBk.val, IBk.op]
    (first | rfl | (congr 1; done) | (congr 1; rw [Bool.eq_iff_iff]; simp only [Bool.and_eq_true, Bool.or_eq_true, Bool.not_eq_true', decide_eq_true_eq, decide_eq_false_iff_not, Bool.false_eq_true, true_and, and_true]; first | omega | grind))
  · simp only [IBk.val]; rw [h1]; rfl
theorem getD_map {b : IBk} {n M : Nat} (hm : ∀ e ∈ b.exits, e.map.length ≤ M) : (b.exits.getD n IEx.zero).map.length ≤ M := by
  by_cases hn : n < b.exits.length
  · have : b.exits.getD n IEx.zero = b.exits[n] := by simp [hn]
    rw [this]
    exact hm _ (List.getElem_mem _)
  · have : b.exits.getD n IEx.zero = IEx.zero := by simp [Nat.not_lt.1 hn]
    rw [this]
    simp [IEx.zero]
theorem rexit_spec (b : IBk) (n ahead : Int) (hm : ∀ e ∈ b.exits, e.map.length ≤ 140737488355328) : Spec Tryz.prog G 39 [.agg b.cells, .int .i64 n, .int .i64 ahead] h (Is (.bool (b.exit n ahead)) h) := by
  refine Spec.is C39ok rfl ?_
  simp only [push_cast, simprocAttr]
  refine ⟨fun h1 => ?_, fun h1 => ⟨by omega, by omega, fun c hc => ?_⟩⟩
  · simp only [IBk.exit]
    (first | rfl | (congr 1; done) | (congr 1; rw [Bool.eq_iff_iff]; simp only [Bool.and_eq_true, Bool.or_eq_true, Bool.not_eq_true', decide_eq_true_eq, decide_eq_false_iff_not, Bool.false_eq_true, true_and, and_true]; first | omega | grind))
  · rw [era_none hc]
    have hl := getD_map (n := n.toNat) hm
    have hE : b.exit n ahead = ((decide ((b.ex n.toNat).to = -1) || b.val (b.ex n.toNat).to ahead) && allN (b.ex n.toNat).map.length fun i => b.val ((b.ex n.toNat).vl i).val ahead) := by
      simp only [IBk.exit]
      rw [decide_eq_true (by omega), decide_eq_true (by omega)]
      simp
    rw [hE]
    clear hE
    generalize hEx : b.ex n.toNat = e
    have hEy : b.exits.getD n.toNat IEx.zero = e := hEx
    rw [hEy] at hl ⊢
    refine lpc.rel [2, 3, 7, 8] (fun m ρ h' => ∃ k : Nat, m = e.map.length - k ∧ k ≤ e.map.length ∧ h = h' ∧ (∀ i, i < k → b.val (e.vl i).val ahead = true) ∧
      ρ = [(2, .int .i64 ahead), (3, .cp b.cells 0), (7, .cp e.cells 0), (8, .int .i64 (k : Int))]) ⟨_, 0, rfl, by omega, rfl, by intro i hi; omega, rfl⟩ ?_
    rintro m _ _ ⟨k, rfl, hk, rfl, hall, rfl⟩
    simp only [push_cast, simprocAttr]
    refine ⟨fun hk2 => ⟨by omega, by omega, (rValue_spec b _ ahead).to ?_⟩, fun hk2 => ?_⟩
    · simp (disch := omega) only [push_cast, simprocAttr, wrap_i64, toNat_ofInt64, Nat.min_eq_left, Int.toNat_of_nonneg]
      refine ⟨fun hv => ?_, fun hv => ?_⟩
      · rw [allN_false k hk2 hv, Bool.and_false]
      · refine ⟨_, _, by omega, .refl _, k + 1, rfl, by omega, rfl, fun i hi => ?_, rfl⟩
        by_cases hik : i = k
        · subst hik; exact hv
        · exact hall i (by omega)
    · obtain rfl : k = e.map.length := by omega
      rw [allN_true hall, Bool.and_true]
      refine ⟨fun h2 => (rValue_spec b _ ahead).to ?_, fun h2 => ?_⟩
      · simp only [push_cast, simprocAttr]
        rw [decide_eq_false h2, Bool.false_or]
      · rw [decide_eq_true h2, Bool.true_or]
theorem exitF_spec (b : IBk) (v : IVl) (ahead : Int) : Spec Tryz.prog G 152 [.agg v.cells, .cp [bkP b] 0, .cp [.int .i64 ahead] 0] h (Is (.bool (! b.val v.val ahead)) h) := by
  refine Spec.is C152ok rfl ?_
  simp only [push_cast, simprocAttr]
  refine (value_spec b _ ahead).to ?_
  simp only [push_cast, simprocAttr]
theorem indexV_spec (b : IBk) (l : List IVl) (ahead : Int) (hl : l.length ≤ 140737488355328) : Spec Tryz.prog G 165 [vls l, .fn 152 [] [.cp [bkP b] 0, .cp [.int .i64 ahead] 0]] h
    (fun r h' => h = h' ∧ ∃ j : Int, r = .int .i64 j ∧ (decide (j ≥ 0) = ! allN l.length fun i => b.val (l.getD i IVl.zero).val ahead)) := by
  refine Spec.drop (Spec.mono (Q := fun r h' => Sub h h' ∧ ∃ j : Int, r = .int .i64 j ∧ (decide (j ≥ 0) = ! allN l.length fun i => b.val (l.getD i IVl.zero).val ahead)) ?_ fun r h' hq => ⟨h, hq.1, rfl, hq.2⟩)
  refine Spec.walk C165ok rfl ?_
  simp only [push_cast, simprocAttr]
  refine lpc.rel [0, 1, 7, 8] (fun m ρ h' => ∃ k : Nat, m = l.length - k ∧ k ≤ l.length ∧ h = h' ∧ (∀ i, i < k → b.val (l.getD i IVl.zero).val ahead = true) ∧
    ρ = [(0, vls l), (1, .fn 152 [] [.cp [bkP b] 0, .cp [.int .i64 ahead] 0]), (7, .int .i64 (l.length : Int)), (8, .int .i64 (k : Int))]) ⟨_, 0, rfl, by omega, rfl, by intro i hi; omega, rfl⟩ ?_
  rintro m _ _ ⟨k, rfl, hk, rfl, hall, rfl⟩
  simp only [push_cast, simprocAttr]
  refine ⟨fun hk2 => ⟨hk2, hk2, ⟨_, C152ok.hf, rfl, rfl⟩, (exitF_spec b _ ahead).to ?_⟩, fun hk2 => ?_⟩
  · simp (disch := omega) only [push_cast, simprocAttr, wrap_i64, toNat_ofInt64, Nat.min_eq_left, Int.toNat_of_nonneg]
    refine ⟨fun hv => ?_, fun hv => ?_⟩
    · rw [allN_false k hk2 hv]
      refine ⟨(k : Int), rfl, by simp⟩
    · refine ⟨_, _, by omega, .refl _, k + 1, rfl, by omega, rfl, fun i hi => ?_, rfl⟩
      by_cases hik : i = k
      · subst hik; exact hv
      · exact hall i (by omega)
  · obtain rfl : k = l.length := by omega
    rw [allN_true hall]
    exact ⟨-1, rfl, rfl⟩
theorem containsV_spec (b : IBk) (l : List IVl) (ahead : Int) (hl : l.length ≤ 140737488355328) : Spec Tryz.prog G 151 [vls l, .fn 152 [] [.cp [bkP b] 0, .cp [.int .i64 ahead] 0]] h (Is (.bool (! allN l.length fun i => b.val (l.getD i IVl.zero).val ahead)) h) := by
  refine Spec.is C151ok rfl ?_
  simp only [push_cast, simprocAttr]
  refine (indexV_spec b l ahead hl).mono ?_
  rintro _ _ ⟨rfl, j, rfl, hj⟩
  simp only [push_cast, simprocAttr]
  rw [hj]
theorem exit_spec (b : IBk) (n ahead : Int) (hm : ∀ e ∈ b.exits, e.map.length ≤ 140737488355328) : Spec Tryz.prog G 124 [.agg [bkP b], .int .i64 n, .int .i64 ahead] h (Is (.bool (b.exit n ahead)) h) := by
  refine Spec.is C124ok rfl ?_
  simp only [push_cast, simprocAttr]
  refine ⟨fun h1 => ?_, fun h1 => ⟨by omega, by omega, fun c hc => ?_⟩⟩
  · simp only [IBk.exit]
    (first | rfl | (congr 1; done) | (congr 1; rw [Bool.eq_iff_iff]; simp only [Bool.and_eq_true, Bool.or_eq_true, Bool.not_eq_true', decide_eq_true_eq, decide_eq_false_iff_not, Bool.false_eq_true, true_and, and_true]; first | omega | grind))
  · rw [era_none hc]
    have hl := getD_map (n := n.toNat) hm
    have hE : b.exit n ahead = ((decide ((b.ex n.toNat).to = -1) || b.val (b.ex n.toNat).to ahead) && allN (b.ex n.toNat).map.length fun i => b.val ((b.ex n.toNat).vl i).val ahead) := by
      simp only [IBk.exit]
      rw [decide_eq_true (by omega), decide_eq_true (by omega)]
      simp
    rw [hE]
    clear hE
    generalize hEx : b.ex n.toNat = e
    have hEy : b.exits.getD n.toNat IEx.zero = e := hEx
    rw [hEy] at hl ⊢
    have hA : (allN e.map.length fun i => b.val (e.map.getD i IVl.zero).val ahead) = allN e.map.length fun i => b.val (e.vl i).val ahead := rfl
    refine ⟨fun h2 => (value_spec b _ ahead).to ?_, fun h2 => (containsV_spec b e.map ahead hl).to ?_⟩
    · simp only [push_cast, simprocAttr]
      refine ⟨fun h3 => ?_, fun h3 => (containsV_spec b e.map ahead hl).to ?_⟩
      · rw [decide_eq_false h2, h3]; rfl
      · simp only [push_cast, simprocAttr]
        rw [decide_eq_false h2, h3, hA, Bool.not_not]; rfl
    · simp only [push_cast, simprocAttr]
      rw [decide_eq_true h2, hA, Bool.not_not]; rfl
end Go.Ab
end
section
/- Contracts: what is right in a block. -/
set_option linter.unusedSimpArgs false
set_option linter.unusedVariables false
set_option maxRecDepth 10000
namespace Go.Ab
open Go.Proofs
variable {G : Glo} {h : Heap}
theorem opR_eq (b : IBk) (k : Nat) {o : IOp} (ho : b.ops.getD k IOp.zero = o) : b.opR k =
  if o.code = 1 then decide (1 ≤ (o.imm.toNat : Int)) && decide ((o.imm.toNat : Int) ≤ 31) && decide (o.x = 0) && decide (o.y = 0) && decide (o.a = 0) && decide (o.b = 0)
  else if o.code = 2 then decide (o.x = 0) && decide (o.y = 0) && decide (o.a = 0) && decide (o.b = 0)
  else if o.code = 3 then reckonsN o.imm.toNat && decide (o.x = 0) && decide (o.y = 0) && b.val o.a k && b.val o.b k
  else if o.code = 4 then decide (0 < loadsN o.imm.toNat) && decide (o.y = 0) && decide (o.b = 0) && b.val o.a k && b.exit o.x k
  else if o.code = 5 then decide (0 < storesN o.imm.toNat) && b.val o.a k && b.val o.b k && b.exit o.x k && b.exit o.y k
  else if o.code = 6 then decide (5 ≤ (o.imm.toNat : Int)) && decide ((o.imm.toNat : Int) ≤ 10) && decide (o.y = 0) && b.val o.a k && b.val o.b k && b.exit o.x k
  else false := by subst ho; rfl
theorem rop_spec (b : IBk) (k : Nat) (hk : k < b.ops.length) (hm : ∀ e ∈ b.exits, e.map.length ≤ 140737488355328) : Spec Tryz.prog G 37 [.agg b.cells, .int .i64 k] h (Is (.bool (b.opR k)) h) := by
  refine Spec.is C37ok rfl ?_
  simp only [push_cast, simprocAttr]
  refine ⟨hk, hk, fun c hc => ?_⟩
  rw [era_none hc]
  generalize ho : b.ops.getD k IOp.zero = o
  have hR := opR_eq b k ho
  generalize b.opR k = R at hR ⊢
  simp only [push_cast, simprocAttr]
  refine ⟨fun h1 => ?_, fun h1 => ⟨fun h2 => ?_, fun h2 => ⟨fun h3 => (rReckons_spec _).to ?_, fun h3 => ⟨fun h4 => (rLoads_spec _).to ?_, fun h4 => ⟨fun h5 => (rStores_spec _).to ?_, fun h5 => ⟨fun h6 => ?_, fun h6 => ?_⟩⟩⟩⟩⟩⟩
  · rw [if_pos h1] at hR
    rw [hR]
    (first | rfl | (congr 1; done) | (congr 1; rw [Bool.eq_iff_iff]; simp only [Bool.and_eq_true, Bool.or_eq_true, Bool.not_eq_true', decide_eq_true_eq, decide_eq_false_iff_not, Bool.false_eq_true, true_and, and_true]; first | omega | grind))
  · rw [if_neg h1, if_pos h2] at hR
    rw [hR]
    (first | rfl | (congr 1; done) | (congr 1; rw [Bool.eq_iff_iff]; simp only [Bool.and_eq_true, Bool.or_eq_true, Bool.not_eq_true', decide_eq_true_eq, decide_eq_false_iff_not, Bool.false_eq_true, true_and, and_true]; first | omega | grind))
  · rw [if_neg h1, if_neg h2, if_pos h3] at hR
    simp only [push_cast, simprocAttr]
    refine ⟨fun g1 => (rValue_spec b _ _).to ?_, fun g1 => ?_⟩
    · simp only [push_cast, simprocAttr]
      refine ⟨fun g2 => (rValue_spec b _ _).to ?_, fun g2 => ?_⟩
      · simp only [push_cast, simprocAttr]
        rw [hR]
        (first | rfl | (congr 1; done) | (congr 1; rw [Bool.eq_iff_iff]; simp only [Bool.and_eq_true, Bool.or_eq_true, Bool.not_eq_true', decide_eq_true_eq, decide_eq_false_iff_not, Bool.false_eq_true, true_and, and_true]; first | omega | grind))
      · rw [hR]
        (first | rfl | (congr 1; done) | (congr 1; rw [Bool.eq_iff_iff]; simp only [Bool.and_eq_true, Bool.or_eq_true, Bool.not_eq_true', decide_eq_true_eq, decide_eq_false_iff_not, Bool.false_eq_true, true_and, and_true]; first | omega | grind))
    · rw [hR]
      (first | rfl | (congr 1; done) | (congr 1; rw [Bool.eq_iff_iff]; simp only [Bool.and_eq_true, Bool.or_eq_true, Bool.not_eq_true', decide_eq_true_eq, decide_eq_false_iff_not, Bool.false_eq_true, true_and, and_true]; first | omega | grind))
  · rw [if_neg h1, if_neg h2, if_neg h3, if_pos h4] at hR
    simp only [push_cast, simprocAttr]
    refine ⟨fun g1 => (rValue_spec b _ _).to ?_, fun g1 => ?_⟩
    · simp only [push_cast, simprocAttr]
      refine ⟨fun g2 => (rexit_spec b _ _ hm).to ?_, fun g2 => ?_⟩
      · simp only [push_cast, simprocAttr]
        rw [hR]
        (first | rfl | (congr 1; done) | (congr 1; rw [Bool.eq_iff_iff]; simp only [Bool.and_eq_true, Bool.or_eq_true, Bool.not_eq_true', decide_eq_true_eq, decide_eq_false_iff_not, Bool.false_eq_true, true_and, and_true]; first | omega | grind))
      · rw [hR]
        (first | rfl | (congr 1; done) | (congr 1; rw [Bool.eq_iff_iff]; simp only [Bool.and_eq_true, Bool.or_eq_true, Bool.not_eq_true', decide_eq_true_eq, decide_eq_false_iff_not, Bool.false_eq_true, true_and, and_true]; first | omega | grind))
    · rw [hR]
      (first | rfl | (congr 1; done) | (congr 1; rw [Bool.eq_iff_iff]; simp only [Bool.and_eq_true, Bool.or_eq_true, Bool.not_eq_true', decide_eq_true_eq, decide_eq_false_iff_not, Bool.false_eq_true, true_and, and_true]; first | omega | grind))
  · rw [if_neg h1, if_neg h2, if_neg h3, if_neg h4, if_pos h5] at hR
    simp only [push_cast, simprocAttr]
    refine ⟨fun g1 => (rValue_spec b _ _).to ?_, fun g1 => ?_⟩
    · simp only [push_cast, simprocAttr]
      refine ⟨fun g2 => (rValue_spec b _ _).to ?_, fun g2 => ?_⟩
      · simp only [push_cast, simprocAttr]
        refine ⟨fun g3 => (rexit_spec b _ _ hm).to ?_, fun g3 => ?_⟩
        · simp only [push_cast, simprocAttr]
          refine ⟨fun g4 => (rexit_spec b _ _ hm).to ?_, fun g4 => ?_⟩
          · simp only [push_cast, simprocAttr]
            rw [hR]
            (first | rfl | (congr 1; done) | (congr 1; rw [Bool.eq_iff_iff]; simp only [Bool.and_eq_true, Bool.or_eq_true, Bool.not_eq_true', decide_eq_true_eq, decide_eq_false_iff_not, Bool.false_eq_true, true_and, and_true]; first | omega | grind))
          · rw [hR]
            (first | rfl | (congr 1; done) | (congr 1; rw [Bool.eq_iff_iff]; simp only [Bool.and_eq_true, Bool.or_eq_true, Bool.not_eq_true', decide_eq_true_eq, decide_eq_false_iff_not, Bool.false_eq_true, true_and, and_true]; first | omega | grind))
        · rw [hR]
          (first | rfl | (congr 1; done) | (congr 1; rw [Bool.eq_iff_iff]; simp only [Bool.and_eq_true, Bool.or_eq_true, Bool.not_eq_true', decide_eq_true_eq, decide_eq_false_iff_not, Bool.false_eq_true, true_and, and_true]; first | omega | grind))
      · rw [hR]
        (first | rfl | (congr 1; done) | (congr 1; rw [Bool.eq_iff_iff]; simp only [Bool.and_eq_true, Bool.or_eq_true, Bool.not_eq_true', decide_eq_true_eq, decide_eq_false_iff_not, Bool.false_eq_true, true_and, and_true]; first | omega | grind))
    · rw [hR]
      (first | rfl | (congr 1; done) | (congr 1; rw [Bool.eq_iff_iff]; simp only [Bool.and_eq_true, Bool.or_eq_true, Bool.not_eq_true', decide_eq_true_eq, decide_eq_false_iff_not, Bool.false_eq_true, true_and, and_true]; first | omega | grind))
  · rw [if_neg h1, if_neg h2, if_neg h3, if_neg h4, if_neg h5, if_pos h6] at hR
    refine ⟨fun g1 => (rValue_spec b _ _).to ?_, fun g1 => ?_⟩
    · simp only [push_cast, simprocAttr]
      refine ⟨fun g2 => (rValue_spec b _ _).to ?_, fun g2 => ?_⟩
      · simp only [push_cast, simprocAttr]
        refine ⟨fun g3 => (rexit_spec b _ _ hm).to ?_, fun g3 => ?_⟩
        · simp only [push_cast, simprocAttr]
          rw [hR]
          (first | rfl | (congr 1; done) | (congr 1; rw [Bool.eq_iff_iff]; simp only [Bool.and_eq_true, Bool.or_eq_true, Bool.not_eq_true', decide_eq_true_eq, decide_eq_false_iff_not, Bool.false_eq_true, true_and, and_true]; first | omega | grind))
        · rw [hR]
          (first | rfl | (congr 1; done) | (congr 1; rw [Bool.eq_iff_iff]; simp only [Bool.and_eq_true, Bool.or_eq_true, Bool.not_eq_true', decide_eq_true_eq, decide_eq_false_iff_not, Bool.false_eq_true, true_and, and_true]; first | omega | grind))
      · rw [hR]
        (first | rfl | (congr 1; done) | (congr 1; rw [Bool.eq_iff_iff]; simp only [Bool.and_eq_true, Bool.or_eq_true, Bool.not_eq_true', decide_eq_true_eq, decide_eq_false_iff_not, Bool.false_eq_true, true_and, and_true]; first | omega | grind))
    · rw [hR]
      (first | rfl | (congr 1; done) | (congr 1; rw [Bool.eq_iff_iff]; simp only [Bool.and_eq_true, Bool.or_eq_true, Bool.not_eq_true', decide_eq_true_eq, decide_eq_false_iff_not, Bool.false_eq_true, true_and, and_true]; first | omega | grind))
  · rw [if_neg h1, if_neg h2, if_neg h3, if_neg h4, if_neg h5, if_neg h6] at hR
    rw [hR]
theorem kind_spec (o : IOp) : Spec Tryz.prog G 146 [.agg o.cells] h (Is (.bool (kindN o)) h) := by
  refine Spec.is C146ok rfl ?_
  simp only [push_cast, simprocAttr]
  unfold kindN
  refine ⟨fun h1 => ?_, fun h1 => ⟨fun h2 => ?_, fun h2 => ⟨fun h3 => (Reckons_spec _).to ?_, fun h3 => ⟨fun h4 => (Loads_spec _).to ?_, fun h4 => ⟨fun h5 => (Stores_spec _).to ?_, fun h5 => ⟨fun h6 => ?_, fun h6 => ?_⟩⟩⟩⟩⟩⟩
  · rw [if_pos h1]
  · rw [if_neg h1, if_pos h2]
  · simp only [push_cast, simprocAttr]
    rw [if_neg h1, if_neg h2, if_pos h3]
  · simp only [push_cast, simprocAttr]
    rw [if_neg h1, if_neg h2, if_neg h3, if_pos h4]
  · simp only [push_cast, simprocAttr]
    rw [if_neg h1, if_neg h2, if_neg h3, if_neg h4, if_pos h5]
  · rw [if_neg h1, if_neg h2, if_neg h3, if_neg h4, if_neg h5, if_pos h6]
  · rw [if_neg h1, if_neg h2, if_neg h3, if_neg h4, if_neg h5, if_neg h6]
def namedN (o : IOp) : Bool := if o.code = 5 then true else if o.code = 6 then decide (o.y = 0) else if o.code = 3 then decide (o.x = 0) && decide (o.y = 0) else if o.code = 4 then decide (o.b = 0) && decide (o.y = 0) else decide (o.a = 0) && decide (o.b = 0) && decide (o.x = 0) && decide (o.y = 0)
@[push_cast] theorem op_eqs (a b c d e f a' b' c' d' e' f' : Int) (neg : Bool) : aeq neg [.i, .i, .i, .i, .i, .i] (.agg [.int .i64 a, .int .i64 b, .int .i64 c, .int .u32 d, .int .i64 e, .int .i64 f]) (.agg [.int .i64 a', .int .i64 b', .int .i64 c', .int .u32 d', .int .i64 e', .int .i64 f']) = some (.bool ((a == a' && (b == b' && (c == c' && (d == d' && (e == e' && f == f'))))) != neg)) := by
  simp [aeq, cellsEq]
theorem op_eqd (x y : IOp) (neg : Bool) : aeq neg [.i, .i, .i, .i, .i, .i] (.agg x.cells) (.agg y.cells) = some (.bool (decide (x = y) != neg)) := by
  unfold IOp.cells
  rw [op_eqs]
  congr 3
  rw [Bool.eq_iff_iff]
  obtain ⟨a, b, c, d, e, f⟩ := x
  obtain ⟨a', b', c', d', e', f'⟩ := y
  simp [← BitVec.toNat_inj]
  intros; omega
theorem named_spec (o : IOp) : Spec Tryz.prog G 147 [.agg o.cells] h (Is (.bool (namedN o)) h) := by
  refine Spec.is C147ok rfl ?_
  simp only [push_cast, simprocAttr]
  intro c hc
  have hs : ∀ X, Sub h (upd h c X) := fun X => (Sub.refl h).alloc hc
  unfold IOp.cells
  simp only [push_cast, simprocAttr]
  unfold namedN
  refine ⟨fun h1 => ⟨?_, hs _⟩, fun h1 => ⟨fun h2 => ⟨?_, hs _⟩, fun h2 => ⟨fun h3 => ⟨?_, hs _⟩, fun h3 => ⟨fun h4 => ⟨?_, hs _⟩, fun h4 => ⟨?_, hs _⟩⟩⟩⟩⟩
  · rw [if_pos h1]
  · rw [if_neg h1, if_pos h2]
    congr 1; rw [Bool.eq_iff_iff]; simp <;> omega
  · rw [if_neg h1, if_neg h2, if_pos h3]
    congr 1; rw [Bool.eq_iff_iff]; simp <;> omega
  · rw [if_neg h1, if_neg h2, if_neg h3, if_pos h4]
    congr 1; rw [Bool.eq_iff_iff]; simp <;> omega
  · rw [if_neg h1, if_neg h2, if_neg h3, if_neg h4]
    congr 1; rw [Bool.eq_iff_iff]; simp <;> omega
def usesN (o : IOp) : List Int := if o.code = 3 ∨ o.code = 5 ∨ o.code = 6 then [o.a, o.b] else if o.code = 4 then [o.a] else []
abbrev ints (l : List Int) : AV := .ro (l.map (.int .i64)) l.length
theorem Uses_spec (o : IOp) : Spec Tryz.prog G 148 [.agg o.cells] h (Is (ints (usesN o)) h) := by
  refine Spec.weak (Q := fun r h' => Sub h h' ∧ ((usesN o = [] ∧ r = .nils) ∨ r = ints (usesN o))) ?_ ?_
  · refine Spec.walk C148ok rfl ?_
    simp only [push_cast, simprocAttr]
    unfold usesN
    by_cases h3 : o.code = 3
    · simp [h3]
    · by_cases h5 : o.code = 5
      · simp [h5]
      · by_cases h6 : o.code = 6
        · simp [h6]
        · by_cases h4 : o.code = 4
          · simp [h4]
          · simp [h3, h4, h5, h6]
  · rintro r h' ⟨hs, ⟨he, rfl⟩ | rfl⟩
    · rw [he]
      exact ⟨_, _, ⟨rfl, rfl⟩, le_sub hs Le.nils⟩
    · exact ⟨_, _, ⟨rfl, rfl⟩, le_sub hs (Le.refl _ _)⟩
def exN (b : IBk) (o : IOp) (k : Nat) : Bool := if o.code = 5 then b.exit o.x k && b.exit o.y k else if o.code = 4 ∨ o.code = 6 then b.exit o.x k else true
theorem opR_parts (b : IBk) (k : Nat) {o : IOp} (ho : b.ops.getD k IOp.zero = o) : b.opR k = (kindN o && namedN o && allN (usesN o).length (fun i => b.val ((usesN o).getD i 0) k) && exN b o k) := by
  rw [opR_eq b k ho]
  unfold kindN namedN usesN exN
  by_cases h1 : o.code = 1
  · simp [h1, allN]; grind
  · by_cases h2 : o.code = 2
    · simp [h2, allN]; grind
    · by_cases h3 : o.code = 3
      · simp [h3, allN, List.range_succ]; grind
      · by_cases h4 : o.code = 4
        · simp [h4, allN, List.range_succ]; grind
        · by_cases h5 : o.code = 5
          · simp [h5, allN, List.range_succ]; grind
          · by_cases h6 : o.code = 6
            · simp [h6, allN, List.range_succ]; grind
            · simp [h1, h2, h3, h4, h5, h6]
@[push_cast] theorem ints_get (l : List Int) (i : Nat) : (l.map (AV.int .i64))[i]? = if i < l.length then some (AV.int .i64 (l.getD i 0)) else none := by
  simp only [List.getElem?_map]
  split
  · rename_i h; simp [h]
  · rename_i h; simp [Nat.not_lt.1 h]
theorem usesN_len (o : IOp) : (usesN o).length ≤ 2 := by
  unfold usesN
  split
  · simp
  · split <;> simp
theorem op_spec (b : IBk) (k : Nat) (hk : k < b.ops.length) (hm : ∀ e ∈ b.exits, e.map.length ≤ 140737488355328) : Spec Tryz.prog G 120 [.agg [bkP b], .int .i64 k] h (Is (.bool (b.opR k)) h) := by
  refine Spec.is C120ok rfl ?_
  simp only [push_cast, simprocAttr]
  refine ⟨hk, hk, fun c hc => ?_⟩
  rw [era_none hc]
  generalize ho : b.ops.getD k IOp.zero = o
  have hR := opR_parts b k ho
  generalize b.opR k = R at hR ⊢
  refine (kind_spec o).to ?_
  simp only [push_cast, simprocAttr]
  refine ⟨fun hkd => (named_spec o).to ?_, fun hkd => ?_⟩
  · simp only [push_cast, simprocAttr]
    rw [hkd, Bool.true_and] at hR
    refine ⟨fun hnm => ?_, fun hnm => (Uses_spec o).to ?_⟩
    · rw [hR, hnm]; rfl
    · rw [hnm, Bool.true_and] at hR
      have hul := usesN_len o
      simp only [push_cast, simprocAttr]
      refine lpc.rel [1, 2, 5, 25, 26, 27] (fun m ρ h' => ∃ j : Nat, m = (usesN o).length - j ∧ j ≤ (usesN o).length ∧ h = h' ∧ (∀ i, i < j → b.val ((usesN o).getD i 0) k = true) ∧
        ρ = [(1, .int .i64 (k : Int)), (2, .cp [bkP b] 0), (5, .cp o.cells 0), (25, ints (usesN o)), (26, .int .i64 ((usesN o).length : Int)), (27, .int .i64 (j : Int))]) ⟨_, 0, rfl, by omega, rfl, by intro i hi; omega, rfl⟩ ?_
      rintro m _ _ ⟨j, rfl, hj, rfl, hall, rfl⟩
      simp only [push_cast, simprocAttr]
      refine ⟨fun hj2 => ⟨hj2, hj2, (value_spec b _ _).to ?_⟩, fun hj2 => ?_⟩
      · simp (disch := omega) only [push_cast, simprocAttr, wrap_i64, toNat_ofInt64, Nat.min_eq_left, Int.toNat_of_nonneg]
        refine ⟨fun hv => ?_, fun hv => ?_⟩
        · rw [hR, allN_false j hj2 hv]; rfl
        · refine ⟨_, _, by omega, .refl _, j + 1, rfl, by omega, rfl, fun i hi => ?_, rfl⟩
          by_cases hik : i = j
          · subst hik; exact hv
          · exact hall i (by omega)
      · obtain rfl : j = (usesN o).length := by omega
        rw [allN_true hall, Bool.true_and] at hR
        refine ⟨fun h5 => (exit_spec b _ _ hm).to ?_, fun h5 => ⟨fun h4 => ?_, fun h4 => ?_⟩⟩
        · simp only [push_cast, simprocAttr]
          rw [exN, if_pos h5] at hR
          refine ⟨fun g => (exit_spec b _ _ hm).to ?_, fun g => ?_⟩
          · simp only [push_cast, simprocAttr]
            rw [hR, g]; rfl
          · rw [hR, g]; rfl
        · refine ⟨fun _ => (exit_spec b _ _ hm).to ?_, fun h => absurd h4 h⟩
          simp only [push_cast, simprocAttr]
          rw [hR, exN, if_neg h5, if_pos (.inl h4)]
        · refine ⟨fun h6 => (exit_spec b _ _ hm).to ?_, fun h6 => ?_⟩
          · simp only [push_cast, simprocAttr]
            rw [hR, exN, if_neg h5, if_pos (.inr h6)]
          · rw [hR, exN, if_neg h5, if_neg (by omega)]
  · rw [hR, hkd]; rfl
end Go.Ab
end
section
/- Contracts: what is wrong with a block. -/
set_option linter.unusedSimpArgs false
set_option linter.unusedVariables false
set_option maxRecDepth 10000
namespace Go.Ab
open Go.Proofs
variable {G : Glo} {h : Heap}
theorem u32_rem (x : BitVec 32) : ((x.toNat : Int).tmod 4 = 0) ↔ x.toNat % 4 = 0 := by
  show ((x.toNat % 4 : Nat) : Int) = 0 ↔ _
  omega
/-- An exit by itself. -/
def headN (b : IBk) (n : Nat) : Bool := b.exit n b.ops.length && decide (0 ≤ (b.ex n).done) && decide ((b.ex n).done ≤ b.pcs.length) && decide ((b.ex n).pc.toNat % 4 = 0) && decide (1 ≤ (b.ex n).why) && decide ((b.ex n).why ≤ 4)
def regN (e : IEx) (i : Nat) : Bool := decide (1 ≤ (e.vl i).reg) && decide ((e.vl i).reg ≤ 31) && (decide (i = 0) || decide ((e.vl (i - 1)).reg < (e.vl i).reg))
theorem leaves_eq (b : IBk) (n : Nat) : b.leaves n = (headN b n && allN (b.ex n).map.length (regN (b.ex n))) := rfl
theorem regN_iff (e : IEx) (i : Nat) : regN e i = true ↔ 1 ≤ (e.vl i).reg ∧ (e.vl i).reg ≤ 31 ∧ (i = 0 ∨ (e.vl (i - 1)).reg < (e.vl i).reg) := by
  simp [regN, and_assoc]
theorem regN_no {e : IEx} {i : Nat} (h : ¬ (1 ≤ (e.vl i).reg ∧ (e.vl i).reg ≤ 31 ∧ (i = 0 ∨ (e.vl (i - 1)).reg < (e.vl i).reg))) : regN e i = false := by
  rw [← Bool.not_eq_true, regN_iff]; exact h
theorem regN_step {e : IEx} {k : Nat} (hall : ∀ i, i < k → regN e i = true) (h : 1 ≤ (e.vl k).reg ∧ (e.vl k).reg ≤ 31 ∧ (k = 0 ∨ (e.vl (k - 1)).reg < (e.vl k).reg)) : ∀ i, i < k + 1 → regN e i = true := by
  intro i hi
  by_cases hik : i = k
  · subst hik; rw [regN_iff]; exact h
  · exact hall i (by omega)
theorem rleaves_spec (b : IBk) (n : Nat) (hn : n < b.exits.length) (hm : ∀ e ∈ b.exits, e.map.length ≤ 140737488355328) : Spec Tryz.prog G 38 [.agg b.cells, .int .i64 n] h (Is (.bool (b.leaves n)) h) := by
  refine Spec.is C38ok rfl ?_
  simp only [push_cast, simprocAttr]
  refine ⟨hn, hn, fun c hc => ?_⟩
  rw [era_none hc, leaves_eq]
  have hl := getD_map (n := n) hm
  have hH : headN b n = (b.exit n b.ops.length && decide (0 ≤ (b.ex n).done) && decide ((b.ex n).done ≤ b.pcs.length) && decide ((b.ex n).pc.toNat % 4 = 0) && decide (1 ≤ (b.ex n).why) && decide ((b.ex n).why ≤ 4)) := rfl
  generalize hEx : b.ex n = e at hH ⊢
  have hEy : b.exits.getD n IEx.zero = e := hEx
  rw [hEy] at hl ⊢
  refine (rexit_spec b _ _ hm).to ?_
  simp only [push_cast, simprocAttr]
  refine ⟨fun h1 => ?_, fun h1 => ?_⟩
  · have : headN b n = false := by
      rw [hH]
      have := u32_rem e.pc
      by_cases g : e.pc.toNat % 4 = 0
      · rw [this] at h1
        grind
      · grind
    rw [this]; rfl
  · have : headN b n = true := by
      rw [hH]
      have := u32_rem e.pc
      rw [this] at h1
      grind
    rw [this, Bool.true_and]
    refine lpc.rel [5, 6] (fun m ρ h' => ∃ k : Nat, m = e.map.length - k ∧ k ≤ e.map.length ∧ h = h' ∧ (∀ i, i < k → regN e i = true) ∧ ρ = [(5, .cp e.cells 0), (6, .int .i64 (k : Int))]) ⟨_, 0, rfl, by omega, rfl, by intro i hi; omega, rfl⟩ ?_
    rintro m _ _ ⟨k, rfl, hk, rfl, hall, rfl⟩
    by_cases hk2 : k < e.map.length
    · have hv : e.vl k = e.map.getD k IVl.zero := rfl
      have hR := regN_no (e := e) (i := k)
      have hS := regN_step hall
      rw [hv] at hR hS
      by_cases p1 : (e.map.getD k IVl.zero).reg < 1
      · simp only [push_cast, simprocAttr, hk2, p1]
        rw [allN_false k hk2 (hR (by omega))]
      · by_cases p2 : (e.map.getD k IVl.zero).reg > 31
        · simp only [push_cast, simprocAttr, hk2, p1, p2]
          rw [allN_false k hk2 (hR (by omega))]
        · by_cases p3 : k = 0
          · have q3 : ¬ (k : Int) > 0 := by omega
            have ew2 : IntKind.i64.wrap ((k : Int) + 1) = (k : Int) + 1 := wrap_i64 (by omega) (by omega)
            simp only [push_cast, simprocAttr, hk2, p1, p2, q3, ew2]
            exact ⟨_, _, by omega, .refl _, k + 1, rfl, by omega, rfl, hS (by omega), rfl⟩
          · obtain ⟨j, hj⟩ : ∃ j, k = j + 1 := ⟨k - 1, by omega⟩
            have hw : e.vl (k - 1) = e.map.getD j IVl.zero := by rw [hj]; rfl
            have hj2 : j < e.map.length := by omega
            rw [hw] at hR hS
            have q3 : (k : Int) > 0 := by omega
            have ew : IntKind.i64.wrap ((k : Int) - 1) = (j : Int) := by rw [wrap_i64 (by omega) (by omega)]; omega
            have ew2 : IntKind.i64.wrap ((k : Int) + 1) = (k : Int) + 1 := wrap_i64 (by omega) (by omega)
            by_cases p4 : (e.map.getD k IVl.zero).reg ≤ (e.map.getD j IVl.zero).reg
            · simp only [push_cast, simprocAttr, hk2, p1, p2, p4, q3, ew, ew2, hj2]
              rw [allN_false k hk2 (hR (by omega))]
            · simp only [push_cast, simprocAttr, hk2, p1, p2, p4, q3, ew, ew2, hj2]
              exact ⟨_, _, by omega, .refl _, k + 1, rfl, by omega, rfl, hS (by omega), rfl⟩
    · obtain rfl : k = e.map.length := by omega
      simp only [push_cast, simprocAttr, hk2]
      rw [allN_true hall]
theorem leaves_spec (b : IBk) (n : Nat) (hn : n < b.exits.length) (hm : ∀ e ∈ b.exits, e.map.length ≤ 140737488355328) : Spec Tryz.prog G 121 [.agg [bkP b], .int .i64 n] h (Is (.bool (b.leaves n)) h) := by
  refine Spec.is C121ok rfl ?_
  simp only [push_cast, simprocAttr]
  refine ⟨hn, hn, fun c hc => ?_⟩
  rw [era_none hc, leaves_eq]
  have hl := getD_map (n := n) hm
  have hH : headN b n = (b.exit n b.ops.length && decide (0 ≤ (b.ex n).done) && decide ((b.ex n).done ≤ b.pcs.length) && decide ((b.ex n).pc.toNat % 4 = 0) && decide (1 ≤ (b.ex n).why) && decide ((b.ex n).why ≤ 4)) := rfl
  generalize hEx : b.ex n = e at hH ⊢
  have hEy : b.exits.getD n IEx.zero = e := hEx
  rw [hEy] at hl ⊢
  refine (exit_spec b _ _ hm).to ?_
  cases hx : b.exit n b.ops.length with
  | false =>
    simp only [push_cast, simprocAttr]
    rw [hH, hx]; rfl
  | true =>
    by_cases g1 : e.done < 0
    · simp only [push_cast, simprocAttr, g1]
      rw [hH, hx]
      (first | rfl | (congr 1; done) | (congr 1; rw [Bool.eq_iff_iff]; simp only [Bool.and_eq_true, Bool.or_eq_true, Bool.not_eq_true', decide_eq_true_eq, decide_eq_false_iff_not, Bool.false_eq_true, true_and, and_true]; first | omega | grind))
    · by_cases g2 : e.done > b.pcs.length
      · simp only [push_cast, simprocAttr, g1, g2]
        rw [hH, hx]
        (first | rfl | (congr 1; done) | (congr 1; rw [Bool.eq_iff_iff]; simp only [Bool.and_eq_true, Bool.or_eq_true, Bool.not_eq_true', decide_eq_true_eq, decide_eq_false_iff_not, Bool.false_eq_true, true_and, and_true]; first | omega | grind))
      · simp only [push_cast, simprocAttr, g1, g2]
        cases g3 : ((e.pc.toNat : Int).tmod 4 != 0) with
        | true =>
          simp only [push_cast, simprocAttr]
          rw [hH, hx]
          have := u32_rem e.pc
          rw [bne_iff_ne, ne_eq, this] at g3
          (first | rfl | (congr 1; done) | (congr 1; rw [Bool.eq_iff_iff]; simp only [Bool.and_eq_true, Bool.or_eq_true, Bool.not_eq_true', decide_eq_true_eq, decide_eq_false_iff_not, Bool.false_eq_true, true_and, and_true]; first | omega | grind))
        | false =>
          rw [bne_eq_false_iff_eq, u32_rem] at g3
          by_cases g4 : e.why < 1
          · simp only [push_cast, simprocAttr, g4]
            rw [hH, hx]
            (first | rfl | (congr 1; done) | (congr 1; rw [Bool.eq_iff_iff]; simp only [Bool.and_eq_true, Bool.or_eq_true, Bool.not_eq_true', decide_eq_true_eq, decide_eq_false_iff_not, Bool.false_eq_true, true_and, and_true]; first | omega | grind))
          · by_cases g5 : e.why > 4
            · simp only [push_cast, simprocAttr, g4, g5]
              rw [hH, hx]
              (first | rfl | (congr 1; done) | (congr 1; rw [Bool.eq_iff_iff]; simp only [Bool.and_eq_true, Bool.or_eq_true, Bool.not_eq_true', decide_eq_true_eq, decide_eq_false_iff_not, Bool.false_eq_true, true_and, and_true]; first | omega | grind))
            · have hh : headN b n = true := by rw [hH, hx]; simp; omega
              rw [hh, Bool.true_and]
              simp only [push_cast, simprocAttr, g4, g5]
              refine lpc.rel [6, 60, 61, 62] (fun m ρ h' => ∃ k : Nat, m = e.map.length - k ∧ k ≤ e.map.length ∧ h = h' ∧ (∀ i, i < k → regN e i = true) ∧
                ρ = [(6, .int .i64 (if k = 0 then 0 else (e.vl (k - 1)).reg)), (60, vls e.map), (61, .int .i64 (e.map.length : Int)), (62, .int .i64 (k : Int))]) ⟨_, 0, rfl, by omega, rfl, by intro i hi; omega, rfl⟩ ?_
              rintro m _ _ ⟨k, rfl, hk, rfl, hall, rfl⟩
              simp only [push_cast, simprocAttr]
              refine ⟨fun hk2 => ⟨hk2, hk2, fun d hd => ?_⟩, fun hk2 => ?_⟩
              · rw [era_none hd]
                have hv : e.vl k = e.map.getD k IVl.zero := rfl
                have hR := regN_no (e := e) (i := k)
                have hS := regN_step hall
                rw [hv] at hR hS
                have hlast : 0 ≤ (if k = 0 then 0 else (e.vl (k - 1)).reg) ∧ (k = 0 → (if k = 0 then 0 else (e.vl (k - 1)).reg) = 0) ∧ (k ≠ 0 → (if k = 0 then 0 else (e.vl (k - 1)).reg) = (e.vl (k - 1)).reg) := by
                  by_cases hk0 : k = 0
                  · simp [hk0]
                  · have := (regN_iff e (k - 1)).1 (hall (k - 1) (by omega))
                    simp [hk0]
                    omega
                generalize (if k = 0 then 0 else (e.vl (k - 1)).reg) = last at hlast ⊢
                refine ⟨fun hb => ⟨?_, .refl _⟩, fun hb => ?_⟩
                · rw [allN_false k hk2 (hR (by
                    rintro ⟨q1, q2, q3⟩
                    by_cases hk0 : k = 0
                    · have := hlast.2.1 hk0; omega
                    · have := hlast.2.2 hk0; omega))]
                · simp (disch := omega) only [push_cast, simprocAttr, wrap_i64, toNat_ofInt64, Nat.min_eq_left, Int.toNat_of_nonneg]
                  refine ⟨_, _, by omega, .refl _, k + 1, rfl, by omega, rfl, hS ⟨by omega, by omega, ?_⟩, rfl⟩
                  by_cases hk0 : k = 0
                  · exact .inl hk0
                  · have := hlast.2.2 hk0; omega
              · obtain rfl : k = e.map.length := by omega
                rw [allN_true hall]
end Go.Ab
end
section
/- Contracts: what is wrong with a block, all in all; its size. -/
set_option linter.unusedSimpArgs false
set_option linter.unusedVariables false
set_option maxRecDepth 10000
namespace Go.Ab
open Go.Proofs
variable {G : Glo} {h : Heap}
/-- A block whose parts can be numbered. -/
structure IBk.wf (b : IBk) : Prop where
  hp : b.pcs.length ≤ 140737488355328
  ho : b.ops.length ≤ 140737488355328
  he : b.exits.length ≤ 140737488355328
  hm : ∀ e ∈ b.exits, e.map.length ≤ 140737488355328
  hq : b.pcs.length ≤ 1000000000000
  hs : b.ops.length ≤ 1000000000000 ∧ b.exits.length ≤ 1000000000000 ∧ ∀ e ∈ b.exits, e.map.length ≤ 1000000000000
def IBk.pcsR (b : IBk) : Bool := allN b.pcs.length (pcR b.pcs)
theorem odd_spec (x : BitVec 32) : Spec Tryz.prog G 122 [.int .u32 x.toNat] h (Is (.bool (! decide (x.toNat % 4 = 0))) h) := by
  refine Spec.is C122ok rfl ?_
  simp only [push_cast, simprocAttr]
  congr 1
  rw [Bool.eq_iff_iff, bne_iff_ne, ne_eq, u32_rem]
  simp
theorem indexP_spec (l : List (BitVec 32)) (hl : l.length ≤ 140737488355328) : Spec Tryz.prog G 150 [.ro (wds l) l.length, .fn 122 [] []] h
    (fun r h' => h = h' ∧ ∃ j : Int, r = .int .i64 j ∧ (decide (j ≥ 0) = ! allN l.length (pcR l))) := by
  refine Spec.drop (Spec.mono (Q := fun r h' => Sub h h' ∧ ∃ j : Int, r = .int .i64 j ∧ (decide (j ≥ 0) = ! allN l.length (pcR l))) ?_ fun r h' hq => ⟨h, hq.1, rfl, hq.2⟩)
  refine Spec.walk C150ok rfl ?_
  simp only [push_cast, simprocAttr]
  refine lpc.rel [0, 1, 7, 8] (fun m ρ h' => ∃ k : Nat, m = l.length - k ∧ k ≤ l.length ∧ h = h' ∧ (∀ i, i < k → pcR l i = true) ∧
    ρ = [(0, .ro (wds l) l.length), (1, .fn 122 [] []), (7, .int .i64 (l.length : Int)), (8, .int .i64 (k : Int))]) ⟨_, 0, rfl, by omega, rfl, by intro i hi; omega, rfl⟩ ?_
  rintro m _ _ ⟨k, rfl, hk, rfl, hall, rfl⟩
  simp only [push_cast, simprocAttr]
  refine ⟨fun hk2 => ⟨hk2, hk2, ⟨_, C122ok.hf, rfl, rfl⟩, (odd_spec _).to ?_⟩, fun hk2 => ?_⟩
  · simp (disch := omega) only [push_cast, simprocAttr, wrap_i64, toNat_ofInt64, Nat.min_eq_left, Int.toNat_of_nonneg]
    refine ⟨fun hv => ?_, fun hv => ?_⟩
    · rw [allN_false k hk2 (by rw [pcR]; simpa using hv)]
      exact ⟨(k : Int), rfl, by simp⟩
    · refine ⟨_, _, by omega, .refl _, k + 1, rfl, by omega, rfl, fun i hi => ?_, rfl⟩
      by_cases hik : i = k
      · subst hik; rw [pcR]; simpa using hv
      · exact hall i (by omega)
  · obtain rfl : k = l.length := by omega
    rw [allN_true hall]
    exact ⟨-1, rfl, rfl⟩
theorem containsP_spec (l : List (BitVec 32)) (hl : l.length ≤ 140737488355328) : Spec Tryz.prog G 123 [.ro (wds l) l.length, .fn 122 [] []] h (Is (.bool (! allN l.length (pcR l))) h) := by
  refine Spec.is C123ok rfl ?_
  simp only [push_cast, simprocAttr]
  refine (indexP_spec l hl).mono ?_
  rintro _ _ ⟨rfl, j, rfl, hj⟩
  simp only [push_cast, simprocAttr]
  rw [hj]
theorem right_spec (b : IBk) (hw : b.wf) : Spec Tryz.prog G 89 [.agg [bkP b]] h (Is (.bool b.right) h) := by
  have hp := hw.hp
  have ho := hw.ho
  have he := hw.he
  have hR : b.right = (allN b.ops.length b.opR && allN b.exits.length b.leaves && b.pcsR && decide (0 < b.pcs.length) && b.exit b.last b.ops.length) := rfl
  generalize b.right = R at hR ⊢
  refine Spec.is C89ok rfl ?_
  simp only [push_cast, simprocAttr]
  refine lpc.rel [1, 11, 12] (fun m ρ h' => ∃ k : Nat, m = b.ops.length - k ∧ k ≤ b.ops.length ∧ h = h' ∧ (∀ i, i < k → b.opR i = true) ∧
    ρ = [(1, .cp [bkP b] 0), (11, .int .i64 (b.ops.length : Int)), (12, .int .i64 (k : Int))]) ⟨_, 0, rfl, by omega, rfl, by intro i hi; omega, rfl⟩ ?_
  rintro m _ _ ⟨k, rfl, hk, rfl, hall, rfl⟩
  simp only [push_cast, simprocAttr]
  refine ⟨fun hk2 => (op_spec b k hk2 hw.hm).to ?_, fun hk2 => ?_⟩
  · simp (disch := omega) only [push_cast, simprocAttr, wrap_i64, toNat_ofInt64, Nat.min_eq_left, Int.toNat_of_nonneg]
    refine ⟨fun hv => ?_, fun hv => ?_⟩
    · rw [hR, allN_false k hk2 hv]; rfl
    · refine ⟨_, _, by omega, .refl _, k + 1, rfl, by omega, rfl, fun i hi => ?_, rfl⟩
      by_cases hik : i = k
      · subst hik; exact hv
      · exact hall i (by omega)
  · obtain rfl : k = b.ops.length := by omega
    rw [allN_true hall, Bool.true_and] at hR
    refine lpc.rel [1, 25, 26] (fun m ρ h' => ∃ k : Nat, m = b.exits.length - k ∧ k ≤ b.exits.length ∧ h = h' ∧ (∀ i, i < k → b.leaves i = true) ∧
      ρ = [(1, .cp [bkP b] 0), (25, .int .i64 (b.exits.length : Int)), (26, .int .i64 (k : Int))]) ⟨_, 0, rfl, by omega, rfl, by intro i hi; omega, rfl⟩ ?_
    rintro m _ _ ⟨k, rfl, hk, rfl, hall, rfl⟩
    simp only [push_cast, simprocAttr]
    refine ⟨fun hk2 => (leaves_spec b k hk2 hw.hm).to ?_, fun hk2 => ?_⟩
    · simp (disch := omega) only [push_cast, simprocAttr, wrap_i64, toNat_ofInt64, Nat.min_eq_left, Int.toNat_of_nonneg]
      refine ⟨fun hv => ?_, fun hv => ?_⟩
      · rw [hR, allN_false k hk2 hv]; rfl
      · refine ⟨_, _, by omega, .refl _, k + 1, rfl, by omega, rfl, fun i hi => ?_, rfl⟩
        by_cases hik : i = k
        · subst hik; exact hv
        · exact hall i (by omega)
    · obtain rfl : k = b.exits.length := by omega
      rw [allN_true hall, Bool.true_and] at hR
      by_cases q : (b.pcs.length : Int) > 0
      · simp only [push_cast, simprocAttr, q]
        have q2 : decide (0 < b.pcs.length) = true := decide_eq_true (by omega)
        rw [q2, Bool.and_true] at hR
        refine (containsP_spec b.pcs hp).to ?_
        cases hP : allN b.pcs.length (pcR b.pcs) with
        | true =>
          simp only [push_cast, simprocAttr, q]
          refine (exit_spec b _ _ hw.hm).to ?_
          simp only [push_cast, simprocAttr, q]
          rw [hR, IBk.pcsR, hP]; rfl
        | false =>
          simp only [push_cast, simprocAttr, q]
          rw [hR, IBk.pcsR, hP]; rfl
      · simp only [push_cast, simprocAttr, q]
        rw [hR, decide_eq_false (by omega)]; simp
end Go.Ab
end
section
/- Contracts: Check. -/
set_option linter.unusedSimpArgs false
set_option linter.unusedVariables false
set_option maxRecDepth 10000
namespace Go.Ab
open Go.Proofs
variable {G : Glo} {h : Heap}
theorem check_long {b : IBk} (h : b.pcs.length > 32 ∨ b.ops.length > 512 ∨ b.exits.length > 128) : b.check = 3 := by
  have : b.long = true := by simp only [IBk.long, Bool.or_eq_true, decide_eq_true_eq]; omega
  rw [IBk.check, if_pos this]
theorem check_short {b : IBk} (h1 : ¬ b.pcs.length > 32) (h2 : ¬ b.ops.length > 512) (h3 : ¬ b.exits.length > 128) : b.check = if b.right then 0 else 1 := by
  have : ¬ b.long = true := by simp only [IBk.long, Bool.or_eq_true, decide_eq_true_eq]; omega
  rw [IBk.check, if_neg this]
theorem Check_spec (b : IBk) (hw : b.wf) : Spec Tryz.prog G 59 [bkP b] h (Is (.int .i64 b.check) h) := by
  refine Spec.is C59ok rfl ?_
  by_cases g1 : (b.pcs.length : Int) > 32
  · simp only [push_cast, simprocAttr, g1]
    rw [check_long (by omega)]
  · by_cases g2 : (b.ops.length : Int) > 512
    · simp only [push_cast, simprocAttr, g1, g2]
      rw [check_long (by omega)]
    · by_cases g3 : (b.exits.length : Int) > 128
      · simp only [push_cast, simprocAttr, g1, g2, g3]
        rw [check_long (by omega)]
      · simp only [push_cast, simprocAttr, g1, g2, g3]
        refine (right_spec b hw).to ?_
        rw [check_short (by omega) (by omega) (by omega)]
        cases b.right with
        | true => simp only [push_cast, simprocAttr]
        | false => simp only [push_cast, simprocAttr]
theorem rCheck_spec (b : IBk) (hw : b.wf) : Spec Tryz.prog G 14 [.agg b.cells] h (Is (.int .i64 b.check) h) := by
  have hp := hw.hp
  have ho := hw.ho
  have he := hw.he
  refine Spec.is C14ok rfl ?_
  simp only [push_cast, simprocAttr]
  refine ⟨fun h1 => ?_, fun h1 => ?_⟩
  · rw [check_long (by omega)]
  · rw [check_short (by omega) (by omega) (by omega)]
    have hR : b.right = (allN b.ops.length b.opR && allN b.exits.length b.leaves && allN b.pcs.length (pcR b.pcs) && decide (0 < b.pcs.length) && b.exit b.last b.ops.length) := rfl
    generalize b.right = R at hR ⊢
    refine lpc.rel [1, 3] (fun m ρ h' => ∃ k : Nat, m = b.ops.length - k ∧ k ≤ b.ops.length ∧ h = h' ∧ (∀ i, i < k → b.opR i = true) ∧
      ρ = [(1, .cp b.cells 0), (3, .int .i64 (k : Int))]) ⟨_, 0, rfl, by omega, rfl, by intro i hi; omega, rfl⟩ ?_
    rintro m _ _ ⟨k, rfl, hk, rfl, hall, rfl⟩
    simp only [push_cast, simprocAttr]
    refine ⟨fun hk2 => (rop_spec b k hk2 hw.hm).to ?_, fun hk2 => ?_⟩
    · simp (disch := omega) only [push_cast, simprocAttr, wrap_i64, toNat_ofInt64, Nat.min_eq_left, Int.toNat_of_nonneg]
      refine ⟨fun hv => ?_, fun hv => ?_⟩
      · rw [hR, allN_false k hk2 hv]; rfl
      · refine ⟨_, _, by omega, .refl _, k + 1, rfl, by omega, rfl, fun i hi => ?_, rfl⟩
        by_cases hik : i = k
        · subst hik; exact hv
        · exact hall i (by omega)
    · obtain rfl : k = b.ops.length := by omega
      rw [allN_true hall, Bool.true_and] at hR
      refine lpc.rel [1, 4] (fun m ρ h' => ∃ k : Nat, m = b.exits.length - k ∧ k ≤ b.exits.length ∧ h = h' ∧ (∀ i, i < k → b.leaves i = true) ∧
        ρ = [(1, .cp b.cells 0), (4, .int .i64 (k : Int))]) ⟨_, 0, rfl, by omega, rfl, by intro i hi; omega, rfl⟩ ?_
      rintro m _ _ ⟨k, rfl, hk, rfl, hall, rfl⟩
      simp only [push_cast, simprocAttr]
      refine ⟨fun hk2 => (rleaves_spec b k hk2 hw.hm).to ?_, fun hk2 => ?_⟩
      · simp (disch := omega) only [push_cast, simprocAttr, wrap_i64, toNat_ofInt64, Nat.min_eq_left, Int.toNat_of_nonneg]
        refine ⟨fun hv => ?_, fun hv => ?_⟩
        · rw [hR, allN_false k hk2 hv]; rfl
        · refine ⟨_, _, by omega, .refl _, k + 1, rfl, by omega, rfl, fun i hi => ?_, rfl⟩
          by_cases hik : i = k
          · subst hik; exact hv
          · exact hall i (by omega)
      · obtain rfl : k = b.exits.length := by omega
        rw [allN_true hall, Bool.true_and] at hR
        refine lpc.rel [1, 5] (fun m ρ h' => ∃ k : Nat, m = b.pcs.length - k ∧ k ≤ b.pcs.length ∧ h = h' ∧ (∀ i, i < k → pcR b.pcs i = true) ∧
          ρ = [(1, .cp b.cells 0), (5, .int .i64 (k : Int))]) ⟨_, 0, rfl, by omega, rfl, by intro i hi; omega, rfl⟩ ?_
        rintro m _ _ ⟨k, rfl, hk, rfl, hall, rfl⟩
        by_cases hk2 : k < b.pcs.length
        · cases hv : (((b.pcs.getD k 0#32).toNat : Int).tmod 4 != 0) with
          | true =>
            have hv2 : pcR b.pcs k = false := by
              rw [bne_iff_ne, ne_eq, u32_rem] at hv
              exact decide_eq_false hv
            rw [hR, allN_false k hk2 hv2]
            simp (disch := omega) only [push_cast, simprocAttr, wrap_i64, toNat_ofInt64, Nat.min_eq_left, Int.toNat_of_nonneg, hk2, hv]
          | false =>
            have hv2 : pcR b.pcs k = true := by
              rw [bne_eq_false_iff_eq, u32_rem] at hv
              exact decide_eq_true hv
            simp (disch := omega) only [push_cast, simprocAttr, wrap_i64, toNat_ofInt64, Nat.min_eq_left, Int.toNat_of_nonneg, hk2, hv]
            refine ⟨_, _, by omega, .refl _, k + 1, rfl, by omega, rfl, fun i hi => ?_, rfl⟩
            by_cases hik : i = k
            · subst hik; exact hv2
            · exact hall i (by omega)
        · obtain rfl : k = b.pcs.length := by omega
          rw [allN_true hall, Bool.true_and] at hR
          by_cases h0 : b.pcs.length = 0
          · rw [decide_eq_false (by omega), Bool.false_and] at hR
            simp only [push_cast, simprocAttr, hk2, h0]
            rw [hR]; rfl
          · rw [decide_eq_true (by omega), Bool.true_and] at hR
            simp only [push_cast, simprocAttr, hk2, h0]
            refine ⟨fun _ => (rexit_spec b _ _ hw.hm).to ?_, fun h => by omega⟩
            cases hx : b.exit b.last b.ops.length with
            | true =>
              simp only [push_cast, simprocAttr]
              rw [hR, hx]; rfl
            | false =>
              simp only [push_cast, simprocAttr]
              rw [hR, hx]; rfl
end Go.Ab
end
section
/- What instructions reckon: over words alone. -/
set_option linter.unusedSimpArgs false
set_option linter.unusedVariables false
set_option maxRecDepth 10000
namespace Go.Ab
open Go.Proofs
variable {G : Glo} {h : Heap}
/-- The instruction of two registers that reckons the same. -/
def plainN (op : Int) : Int := if op = 19 then 28 else if op = 20 then 31 else if op = 21 then 32 else if op = 22 then 33 else if op = 23 then 36 else if op = 24 then 37 else if op = 25 then 30 else if op = 26 then 34 else if op = 27 then 35 else if 19 ≤ op ∧ op ≤ 37 then op else 0
def bit1 (b : Bool) : BitVec 32 := if b then 1 else 0
def aluP (p : Int) (a b : BitVec 32) : BitVec 32 :=
  if p = 28 then a + b else if p = 29 then a - b else if p = 30 then a <<< (b.toNat % 32) else if p = 31 then bit1 (decide (a.toInt < b.toInt)) else if p = 32 then bit1 (decide (a.toNat < b.toNat)) else if p = 33 then a ^^^ b else if p = 34 then a >>> (b.toNat % 32) else if p = 36 then a ||| b else if p = 37 then a &&& b else if p = 35 then a.sshiftRight (b.toNat % 32) else 0
/-- What an instruction reckons of two words (0: nothing). -/
def aluN (op : Int) (a b : BitVec 32) : BitVec 32 := aluP (plainN op) a b
def aluE (op : Int) : Int := if 19 ≤ op ∧ op ≤ 37 then 0 else 9
theorem one_spec (b : Bool) : Spec Tryz.prog G 160 [.bool b] h (Is (.int .u32 (bit1 b).toNat) h) := by
  refine Spec.is C160ok rfl ?_
  simp only [push_cast, simprocAttr]
  cases b <;> simp [bit1]
theorem rone_spec (b : Bool) : Spec Tryz.prog G 142 [.bool b] h (Is (.int .u32 (bit1 b).toNat) h) := by
  refine Spec.is C142ok rfl ?_
  simp only [push_cast, simprocAttr]
  cases b <;> simp [bit1]
theorem Plain_spec (op : Int) : Spec Tryz.prog G 159 [.int .i64 op] h (Is (.int .i64 (plainN op)) h) := by
  refine Spec.is C159ok rfl ?_
  simp only [push_cast, simprocAttr]
  unfold plainN
  refine ⟨fun h1 => ?_, fun h1 => ⟨fun h2 => ?_, fun h2 => ⟨fun h3 => ?_, fun h3 => ⟨fun h4 => ?_, fun h4 => ⟨fun h5 => ?_, fun h5 => ⟨fun h6 => ?_, fun h6 => ⟨fun h7 => ?_, fun h7 => ⟨fun h8 => ?_, fun h8 => ⟨fun h9 => ?_, fun h9 => ?_⟩⟩⟩⟩⟩⟩⟩⟩⟩
  all_goals first
    | (simp [*]; done)
    | (refine (aHas_spec op).to ?_
       simp only [push_cast, simprocAttr]
       simp only [if_neg h1, if_neg h2, if_neg h3, if_neg h4, if_neg h5, if_neg h6, if_neg h7, if_neg h8, if_neg h9]
       first
         | exact ⟨fun h10 => by rw [if_pos h10], fun h10 => by rw [if_neg (by rintro ⟨q1, q2⟩; simp [q1, q2] at h10)]⟩)
theorem plain_range (op : Int) : (plainN op = 0 ∧ ¬ (19 ≤ op ∧ op ≤ 37)) ∨ (28 ≤ plainN op ∧ plainN op ≤ 37 ∧ 19 ≤ op ∧ op ≤ 37) := by
  unfold plainN
  (repeat' split) <;> omega
theorem xor_top (x : Nat) (hx : x < 2 ^ 32) : x ^^^ 2 ^ 31 = (2 ^ 31 + x) % 2 ^ 32 := by
  apply Nat.eq_of_testBit_eq
  intro i
  rw [Nat.testBit_xor, Nat.testBit_two_pow, Nat.testBit_mod_two_pow]
  rcases Nat.lt_trichotomy i 31 with hi | rfl | hi
  · rw [Nat.testBit_two_pow_add_gt hi]
    simp [show ¬ 31 = i by omega, show i < 32 by omega]
  · rw [Nat.testBit_two_pow_add_eq]
    simp
  · have : x.testBit i = false := Nat.testBit_lt_two_pow (Nat.lt_of_lt_of_le hx (Nat.pow_le_pow_right (by omega) (by omega)))
    simp [this, show ¬ 31 = i by omega, show ¬ i < 32 by omega]
theorem toInt_top (x : BitVec 32) : ((x ^^^ 0x80000000#32).toNat : Int) = x.toInt + 2147483648 := by
  have hx := x.isLt
  have h1 : (x ^^^ 0x80000000#32).toNat = (2 ^ 31 + x.toNat) % 2 ^ 32 := by
    rw [BitVec.toNat_xor, ← xor_top _ hx]; rfl
  rw [h1, BitVec.toInt_eq_toNat_cond]
  split <;> omega
theorem and31 (b : BitVec 32) : min (BitVec.setWidth 64 (b &&& 31#32)).toNat 32 = b.toNat % 32 := by
  have := and_mod b 5 (by omega)
  simp only [Nat.reducePow, Nat.reduceSub] at this
  rw [sw64, this]
  omega
theorem sar_eq (a : BitVec 32) (n : Nat) : BitVec.ofInt 32 (a.toInt.fdiv (2 ^ n)) = a.sshiftRight n := by
  rw [pow_int, Int.fdiv_eq_ediv_of_nonneg _ (Int.natCast_nonneg _), BitVec.sshiftRight, Int.shiftRight_eq_div_pow]
theorem Do_alu (op : Int) (a b : BitVec 32) : Spec Tryz.prog G 134 [.int .i64 op, .int .u32 a.toNat, .int .u32 b.toNat] h (Is (.tup [.int .u32 (aluN op a b).toNat, .int .i64 (aluE op)]) h) := by
  refine Spec.is C134ok rfl ?_
  simp only [push_cast, simprocAttr]
  refine (Plain_spec op).to ?_
  have hr := plain_range op
  have hE : aluE op = if plainN op = 0 then 9 else 0 := by
    unfold aluE
    rcases hr with ⟨h1, h2⟩ | h1
    · rw [if_neg h2, if_pos h1]
    · rw [if_pos ⟨h1.2.2.1, h1.2.2.2⟩, if_neg (by omega)]
  rw [hE, aluN]
  have ht := toInt_top a
  have ht' := toInt_top b
  have hd : decide ((a ^^^ 0x80000000#32).toNat < (b ^^^ 0x80000000#32).toNat) = decide (a.toInt < b.toInt) := by
    rw [decide_eq_decide]; omega
  generalize plainN op = p at *
  simp only [push_cast, simprocAttr, and31, hd]
  unfold aluP
  refine ⟨fun h1 => ?_, fun h1 => ⟨fun h2 => ?_, fun h2 => ⟨fun h3 => ?_, fun h3 => ⟨fun h4 => (one_spec _).to ?_, fun h4 => ⟨fun h5 => (one_spec _).to ?_, fun h5 => ⟨fun h6 => ?_, fun h6 => ⟨fun h7 => ?_, fun h7 => ⟨fun h8 => ?_, fun h8 => ⟨fun h9 => ?_, fun h9 => ⟨fun h10 => ?_, fun h10 => ?_⟩⟩⟩⟩⟩⟩⟩⟩⟩⟩
  · subst h1; simp [BitVec.sub_eq_add_neg]
  · subst h2; simp
  · subst h3; simp
  · simp only [push_cast, simprocAttr]
    subst h4; simp
  · simp only [push_cast, simprocAttr]
    subst h5; simp
  · subst h6; simp
  · subst h7; simp
  · subst h8
    simp only [Int.reduceEq, reduceIte, sar_eq]
  · subst h9; simp
  · subst h10; simp
  · have : p = 0 := by omega
    subst this; simp
/-- What it multiplies and divides. -/
def mdN (op : Int) (a b : BitVec 32) : BitVec 32 :=
  if op = 50 then a * b else if op = 51 then BitVec.ofInt 32 (a.toInt * b.toInt / 4294967296) else if op = 52 then BitVec.ofInt 32 (a.toInt * b.toNat / 4294967296) else if op = 53 then BitVec.ofNat 32 (a.toNat * b.toNat / 4294967296)
  else if op = 54 then (if b = 0#32 then 0xffffffff#32 else BitVec.ofInt 32 (a.toInt.tdiv b.toInt)) else if op = 55 then (if b = 0#32 then 0xffffffff#32 else a / b)
  else if op = 56 then (if b = 0#32 then a else BitVec.ofInt 32 (a.toInt.tmod b.toInt)) else if op = 57 then (if b = 0#32 then a else a % b) else 0
def mdE (op : Int) : Int := if 50 ≤ op ∧ op ≤ 57 then 0 else 9
theorem shr31 (a : BitVec 32) : (((a >>> 31).toNat : Int) == 1) = decide (a.toInt < 0) := by
  rw [Bool.eq_iff_iff, beq_iff_eq, decide_eq_true_eq, BitVec.toNat_ushiftRight, Nat.shiftRight_eq_div_pow, BitVec.toInt_eq_toNat_cond]
  have := a.isLt
  split <;> omega
theorem negative_spec (a : BitVec 32) : Spec Tryz.prog G 168 [.int .u32 a.toNat] h (Is (.bool (decide (a.toInt < 0))) h) := by
  refine Spec.is C168ok rfl ?_
  simp only [push_cast, simprocAttr]
  rw [show min 31 32 = 31 from rfl, shr31]
theorem and16 (b : BitVec 32) : (b &&& 65535#32).toNat = b.toNat % 65536 := by
  have := and_mod b 16 (by omega)
  simpa using this
theorem prod16 {x y : Nat} (hx : x < 65536) (hy : y < 65536) : x * y ≤ 4294836225 := by
  have := Nat.mul_le_mul (show x ≤ 65535 by omega) (show y ≤ 65535 by omega)
  omega
theorem wide_eq (a b : BitVec 32) : a >>> 16 * b >>> 16 + (a >>> 16 * (b &&& 65535#32) + ((a &&& 65535#32) * (b &&& 65535#32)) >>> 16) >>> 16 +
    ((a &&& 65535#32) * b >>> 16 + (a >>> 16 * (b &&& 65535#32) + ((a &&& 65535#32) * (b &&& 65535#32)) >>> 16 &&& 65535#32)) >>> 16 = BitVec.ofNat 32 (a.toNat * b.toNat / 4294967296) := by
  have ha := a.isLt
  have hb := b.isLt
  apply BitVec.eq_of_toNat_eq
  simp only [BitVec.toNat_add, BitVec.toNat_mul, BitVec.toNat_ushiftRight, and16, Nat.shiftRight_eq_div_pow, BitVec.toNat_ofNat, Nat.reducePow]
  generalize a.toNat = A at *
  generalize b.toNat = B at *
  obtain ⟨x, y, hx, hy, rfl⟩ : ∃ x y, x < 65536 ∧ y < 65536 ∧ A = 65536 * x + y := ⟨A / 65536, A % 65536, by omega, by omega, by omega⟩
  obtain ⟨u, v, hu, hv, rfl⟩ : ∃ u v, u < 65536 ∧ v < 65536 ∧ B = 65536 * u + v := ⟨B / 65536, B % 65536, by omega, by omega, by omega⟩
  rw [show (65536 * x + y) / 65536 = x by omega, show (65536 * x + y) % 65536 = y by omega, show (65536 * u + v) / 65536 = u by omega, show (65536 * u + v) % 65536 = v by omega]
  have e : (65536 * x + y) * (65536 * u + v) = 4294967296 * (x * u) + 65536 * (x * v) + 65536 * (y * u) + y * v := by grind
  have h1 := prod16 hx hu
  have h2 := prod16 hx hv
  have h3 := prod16 hy hu
  have h4 := prod16 hy hv
  rw [e]
  generalize x * u = p at *
  generalize x * v = q at *
  generalize y * u = r at *
  generalize y * v = s at *
  omega
theorem Wide_spec (a b : BitVec 32) : Spec Tryz.prog G 167 [.int .u32 a.toNat, .int .u32 b.toNat] h (Is (.tup [.int .u32 (BitVec.ofNat 32 (a.toNat * b.toNat / 4294967296)).toNat, .int .u32 (a * b).toNat]) h) := by
  refine Spec.is C167ok rfl ?_
  simp only [push_cast, simprocAttr]
  rw [show min 16 32 = 16 from rfl, wide_eq]
theorem ofInt_congr {x y : Int} (k : Int) (h : x = y + 4294967296 * k) : BitVec.ofInt 32 x = BitVec.ofInt 32 y := by
  apply BitVec.eq_of_toNat_eq
  rw [BitVec.toNat_ofInt, BitVec.toNat_ofInt]
  congr 1
  omega
theorem bv_int (a : BitVec 32) : a = BitVec.ofInt 32 (a.toNat : Int) := by rw [BitVec.ofInt_natCast]; simp
/-- A product's upper half. -/
theorem up_eq (a b : BitVec 32) (sa sb : Bool) : BitVec.ofNat 32 (a.toNat * b.toNat / 4294967296) - (if (sa && decide (a.toInt < 0)) = true then b else 0#32) - (if (sb && decide (b.toInt < 0)) = true then a else 0#32) =
    BitVec.ofInt 32 ((if sa then a.toInt else a.toNat) * (if sb then b.toInt else b.toNat) / 4294967296) := by
  have h0 : BitVec.ofNat 32 (a.toNat * b.toNat / 4294967296) = BitVec.ofInt 32 (((a.toNat : Int) * (b.toNat : Int)) / 4294967296) := by
    rw [← BitVec.ofInt_natCast]; congr 1
  have hz : (0#32) = BitVec.ofInt 32 0 := rfl
  have ha := BitVec.toInt_eq_toNat_cond a
  have hb := BitVec.toInt_eq_toNat_cond b
  have la := a.isLt
  have lb := b.isLt
  have ea : a.toInt = (a.toNat : Int) - (if a.toInt < 0 then 4294967296 else 0) := by split <;> split at ha <;> omega
  have eb : b.toInt = (b.toNat : Int) - (if b.toInt < 0 then 4294967296 else 0) := by split <;> split at hb <;> omega
  clear ha hb
  have fa : (if (sa && decide (a.toInt < 0)) = true then b else 0#32) = BitVec.ofInt 32 (if (sa && decide (a.toInt < 0)) = true then (b.toNat : Int) else 0) := by split; exact bv_int b; rfl
  have fb : (if (sb && decide (b.toInt < 0)) = true then a else 0#32) = BitVec.ofInt 32 (if (sb && decide (b.toInt < 0)) = true then (a.toNat : Int) else 0) := by split; exact bv_int a; rfl
  rw [h0, fa, fb, ← ofInt_sub', ← ofInt_sub']
  generalize a.toInt = x at *
  generalize b.toInt = y at *
  generalize (a.toNat : Int) = A at *
  generalize (b.toNat : Int) = B at *
  have key : ∀ p q : Int, (A - 4294967296 * p) * (B - 4294967296 * q) = A * B + 4294967296 * (4294967296 * (p * q) - p * B - q * A) := by intro p q; grind
  have fin : ∀ p q : Int, (A - 4294967296 * p) * (B - 4294967296 * q) / 4294967296 = A * B / 4294967296 + (4294967296 * (p * q) - p * B - q * A) := by
    intro p q
    rw [key, Int.add_mul_ediv_left _ _ (by omega)]
  have k00 := fin 0 0
  have k01 := fin 0 1
  have k10 := fin 1 0
  have k11 := fin 1 1
  simp only [Int.mul_zero, Int.sub_zero, Int.mul_one, Int.zero_mul, Int.one_mul, Int.zero_sub, Int.sub_self, Int.add_zero] at k00 k01 k10 k11
  cases sa <;> cases sb <;> simp only [Bool.true_and, Bool.false_and, Bool.false_eq_true, reduceIte, decide_eq_true_eq]
  · exact ofInt_congr 0 (by omega)
  · by_cases hy : y < 0
    · rw [if_pos hy] at eb ⊢
      rw [eb, k01]; exact ofInt_congr 0 (by omega)
    · rw [if_neg hy, Int.sub_zero] at eb
      rw [if_neg hy, eb]; exact ofInt_congr 0 (by omega)
  · by_cases hx : x < 0
    · rw [if_pos hx] at ea ⊢
      rw [ea, k10]; exact ofInt_congr 0 (by omega)
    · rw [if_neg hx, Int.sub_zero] at ea
      rw [if_neg hx, ea]; exact ofInt_congr 0 (by omega)
  · by_cases hx : x < 0 <;> by_cases hy : y < 0
    · rw [if_pos hx] at ea ⊢
      rw [if_pos hy] at eb ⊢
      rw [ea, eb, k11]; exact ofInt_congr (-1) (by omega)
    · rw [if_pos hx] at ea ⊢
      rw [if_neg hy, Int.sub_zero] at eb
      rw [if_neg hy, ea, eb, k10]; exact ofInt_congr 0 (by omega)
    · rw [if_neg hx, Int.sub_zero] at ea
      rw [if_pos hy] at eb ⊢
      rw [if_neg hx, ea, eb, k01]; exact ofInt_congr 0 (by omega)
    · rw [if_neg hx, Int.sub_zero] at ea
      rw [if_neg hy, Int.sub_zero] at eb
      rw [if_neg hx, if_neg hy, ea, eb]; exact ofInt_congr 0 (by omega)
theorem upper_spec (a b : BitVec 32) (sa sb : Bool) : Spec Tryz.prog G 161 [.int .u32 a.toNat, .int .u32 b.toNat, .bool sa, .bool sb] h
    (Is (.int .u32 (BitVec.ofInt 32 ((if sa then a.toInt else a.toNat) * (if sb then b.toInt else b.toNat) / 4294967296)).toNat) h) := by
  rw [← up_eq]
  refine Spec.is C161ok rfl ?_
  simp only [push_cast, simprocAttr]
  refine (Wide_spec a b).to ?_
  cases sa <;> cases sb
  · simp only [push_cast, simprocAttr]
    simp
  · simp only [push_cast, simprocAttr]
    refine (negative_spec b).to ?_
    simp only [push_cast, simprocAttr]
    by_cases hb : b.toInt < 0 <;> simp [hb]
  · simp only [push_cast, simprocAttr]
    refine (negative_spec a).to ?_
    simp only [push_cast, simprocAttr]
    by_cases ha : a.toInt < 0 <;> simp [ha]
  · simp only [push_cast, simprocAttr]
    refine (negative_spec a).to ?_
    simp only [push_cast, simprocAttr]
    by_cases ha : a.toInt < 0
    · simp only [push_cast, simprocAttr, ha]
      refine (negative_spec b).to ?_
      simp only [push_cast, simprocAttr]
      by_cases hb : b.toInt < 0 <;> simp [hb]
    · simp only [push_cast, simprocAttr, ha]
      refine (negative_spec b).to ?_
      simp only [push_cast, simprocAttr]
      by_cases hb : b.toInt < 0 <;> simp [hb]
theorem rright_spec (n : Int) (s : Nat) (h1 : -2147483648 ≤ n) (h2 : n < 2147483648) (hs : s ≤ 31) : Spec Tryz.prog G 144 [.int .i64 n, .int .i64 s] h (Is (.int .i64 (n / 2 ^ s)) h) := by
  refine Spec.is C144ok rfl ?_
  simp only [push_cast, simprocAttr]
  have hp := Nat.two_pow_pos s
  obtain ⟨P, hP⟩ : ∃ P, 2 ^ s = P := ⟨_, rfl⟩
  have hP2 : P ≤ 2 ^ 31 := hP ▸ Nat.pow_le_pow_right (by omega) hs
  rw [hP] at hp
  rw [show ((2 : Int) ^ s) = (P : Int) by rw [pow_int, hP]]
  refine (PowV (by omega) hP).to ?_
  have h5 : ((P : Int) = 0) = False := by simp; omega
  simp (disch := omega) only [push_cast, simprocAttr, wrap_i64, toNat_ofInt64, Nat.min_eq_left, Int.toNat_of_nonneg, h5]
  have hP0 : (0 : Int) < P := by omega
  refine ⟨fun hn => ?_, fun hn => ?_⟩
  · rw [Int.tdiv_eq_ediv_of_nonneg (by omega)]
    have b1 := Int.ediv_nonneg (show 0 ≤ n by omega) (Int.le_of_lt hP0)
    have b2 := Int.ediv_le_self (P : Int) (show 0 ≤ n by omega)
    rw [wrap_i64 (by omega) (by omega)]
  · rw [Int.tdiv_eq_ediv_of_nonneg (by omega)]
    have e : (P - 1 - n) / (P : Int) = -(n / P) := by
      have e1 := Int.emod_add_mul_ediv n P
      have e2 := Int.emod_nonneg n (show (P : Int) ≠ 0 by omega)
      have e3 := Int.emod_lt_of_pos n hP0
      refine ((Int.ediv_emod_unique (r := P - 1 - n % P) hP0).2 ⟨?_, by omega, by omega⟩).1
      rw [Int.mul_neg]
      omega
    have b1 := Int.ediv_nonneg (show 0 ≤ P - 1 - n by omega) (Int.le_of_lt hP0)
    have b2 := Int.ediv_le_self (P : Int) (show 0 ≤ P - 1 - n by omega)
    rw [wrap_i64 (x := (P - 1 - n) / P) (by omega) (by omega), wrap_i64 (by omega) (by omega), e]
    congr 1; omega
theorem high_spec (n : Int) (h1 : -9223372036854775807 ≤ n) (h2 : n < 9223372036854775807) : Spec Tryz.prog G 139 [.int .i64 n] h (Is (.int .u32 (BitVec.ofInt 32 (n / 4294967296)).toNat) h) := by
  refine Spec.is C139ok rfl ?_
  simp (disch := omega) only [push_cast, simprocAttr, wrap_i64, toNat_ofInt64, Nat.min_eq_left, Int.toNat_of_nonneg]
  refine ⟨fun hn => ?_, fun hn => ?_⟩
  · rw [Int.tdiv_eq_ediv_of_nonneg (by omega), wrap_i64 (by omega) (by omega)]
    refine (Word_spec _).to ?_
    simp only [push_cast, simprocAttr]
  · rw [Int.tdiv_eq_ediv_of_nonneg (by omega), wrap_i64 (x := (0 - (n + 1)) / 4294967296) (by omega) (by omega), wrap_i64 (x := 0 - (0 - (n + 1)) / 4294967296) (by omega) (by omega), wrap_i64 (by omega) (by omega)]
    rw [show 0 - (0 - (n + 1)) / 4294967296 - 1 = n / 4294967296 by omega]
    refine (Word_spec _).to ?_
    simp only [push_cast, simprocAttr]
theorem size_spec (a : BitVec 32) : Spec Tryz.prog G 171 [.int .u32 a.toNat] h (Is (.int .u32 (BitVec.ofNat 32 a.toInt.natAbs).toNat) h) := by
  refine Spec.is C171ok rfl ?_
  simp only [push_cast, simprocAttr]
  refine (negative_spec a).to ?_
  have ha := BitVec.toInt_eq_toNat_cond a
  have la := a.isLt
  simp only [push_cast, simprocAttr]
  refine ⟨fun h1 => ?_, fun h1 => ?_⟩
  · congr 2
    rw [BitVec.toNat_sub, BitVec.toNat_ofNat, BitVec.toNat_ofNat]
    split at ha <;> omega
  · congr 2
    rw [BitVec.toNat_ofNat]
    split at ha <;> omega
abbrev wd (a : BitVec 32) : AV := .int .u32 a.toNat
abbrev cell1 (a : BitVec 32) : Blk := ⟨[wd a], 0⟩
def dPost (h : Heap) (pq pr : Nat) (q r : BitVec 32) (h' : Heap) : Prop := h' pq = some (cell1 q) ∧ h' pr = some (cell1 r) ∧ ∀ c, c ≠ pq → c ≠ pr → h' c = h c
theorem divided1_spec {pa pb pq pr : Nat} (a b q r q1 r1 : BitVec 32) (ha : h pa = some (cell1 a)) (hb : h pb = some (cell1 b)) (hq : h pq = some (cell1 q)) (hr : h pr = some (cell1 r)) (n1 : pa ≠ pq) (n2 : pq ≠ pr)
    (hq1 : q1 = if decide (a.toInt < 0) != decide (b.toInt < 0) then 0 - q else q) (hr1 : r1 = if a.toInt < 0 then 0 - r else r) :
    SpecD Tryz.prog G 170 [.ptr pa 0, .ptr pb 0, .ptr pq 0, .ptr pr 0] h (fun _ h' => dPost h pq pr q1 r1 h') := by
  refine SpecD.walk C170ok rfl ?_
  simp only [push_cast, simprocAttr, ha, hb]
  refine (negative_spec a).to ?_
  simp only [push_cast, simprocAttr, ha, hb]
  refine (negative_spec b).to ?_
  simp only [push_cast, simprocAttr, ha, hb]
  have key : ∀ (q' : BitVec 32) (h1 : Heap), h1 = upd h pq (cell1 q') → h1 pa = some (cell1 a) ∧ h1 pr = some (cell1 r) ∧ h1 pq = some (cell1 q') := by
    rintro q' _ rfl
    exact ⟨by rw [upd_ne n1]; exact ha, by rw [upd_ne (Ne.symm n2)]; exact hr, upd_same _ _ _⟩
  have fin : ∀ (q' : BitVec 32) (h1 : Heap), h1 = upd h pq (cell1 q') → ∀ r' : BitVec 32, dPost h pq pr q' r' (upd h1 pr (cell1 r')) := by
    rintro q' _ rfl r'
    exact ⟨by rw [upd_ne n2]; exact upd_same _ _ _, upd_same _ _ _, fun c h1 h2 => by rw [upd_ne h2, upd_ne h1]⟩
  have hself : h = upd h pq (cell1 q) := (upd_self hq).symm
  refine ⟨fun h1 => ?_, fun h1 => ?_⟩
  · simp only [push_cast, simprocAttr, hq]
    obtain ⟨k1, k2, k3⟩ := key (0#32 - q) _ rfl
    have f := fin (0#32 - q) _ rfl
    have hc : (decide (a.toInt < 0) != decide (b.toInt < 0)) = true := by rw [bne_iff_ne]; exact h1
    rw [if_pos hc] at hq1
    subst hq1
    generalize upd h pq (cell1 (0#32 - q)) = h1 at *
    simp only [push_cast, simprocAttr, k1]
    refine (negative_spec a).to ?_
    simp only [push_cast, simprocAttr, k1, k2]
    refine ⟨fun h2 => ?_, fun h2 => ?_⟩
    · rw [if_pos h2] at hr1
      subst hr1
      exact f (0#32 - r)
    · rw [if_neg h2] at hr1
      subst hr1
      have := f r1
      rwa [upd_self k2] at this
  · obtain ⟨k1, k2, k3⟩ := key q h hself
    have f := fin q h hself
    have hc : ¬ (decide (a.toInt < 0) != decide (b.toInt < 0)) = true := by rw [bne_iff_ne]; exact fun q => q h1
    rw [if_neg hc] at hq1
    subst hq1
    refine (negative_spec a).to ?_
    simp only [push_cast, simprocAttr, k1, k2]
    refine ⟨fun h2 => ?_, fun h2 => ?_⟩
    · rw [if_pos h2] at hr1
      subst hr1
      exact f (0#32 - r)
    · rw [if_neg h2] at hr1
      subst hr1
      have := f r1
      rwa [upd_self k2] at this
theorem SpecD.mono {P : Program} {f : FuncId} {args : List AV} {h : Heap} {Q Q' : AV → Heap → Prop} (hs : SpecD P G f args h Q) (hq : ∀ r h', Q r h' → Q' r h') : SpecD P G f args h Q' :=
  fun w vs u h1 h2 h3 => (hs w vs u h1 h2 h3).mono fun _ _ _ ⟨e, v, r, h', a, b, c⟩ => ⟨e, v, r, h', a, hq _ _ b, c⟩
theorem Spec.isD {P : Program} {f : FuncId} {fn : Func} {x y : ACode} {d g : Nat} {caps : List Operand} {rs : List RV} {args : List AV} {h h1 : Heap} {v : AV} (ho : Okd P f fn x (d, g, caps) y rs)
    (hn : Nat.ble args.length fn.ntmps = true) (hw : wpc P G fn.ntmps x (midC P G fn.ntmps d g caps y rs (IsS v h1)) (argEnv args) h) : Spec P G f args h (Is v h1) :=
  Spec.drop ((Spec.walkD ho hn hw).mono fun _ _ ⟨e1, e2⟩ => ⟨h1, e2, e1, rfl⟩)
theorem div_zero_iff (b : BitVec 32) (hb : b ≠ 0#32) : b.toInt ≠ 0 := fun e => hb (by rw [← BitVec.toInt_inj, e]; rfl)
theorem abs_le (a : BitVec 32) : a.toInt.natAbs ≤ 2147483648 := by
  have ha := BitVec.toInt_eq_toNat_cond a
  have la := a.isLt
  split at ha <;> omega
theorem size_nat (a : BitVec 32) : (BitVec.ofNat 32 a.toInt.natAbs).toNat = a.toInt.natAbs := by
  have := abs_le a
  rw [BitVec.toNat_ofNat]; omega
/-- Quotient and rest, by sizes and signs. -/
theorem quo_sign (a b : BitVec 32) : BitVec.ofInt 32 (a.toInt.tdiv b.toInt) = if decide (a.toInt < 0) != decide (b.toInt < 0) then 0 - BitVec.ofNat 32 (a.toInt.natAbs / b.toInt.natAbs) else BitVec.ofNat 32 (a.toInt.natAbs / b.toInt.natAbs) := by
  have hz : (0 : BitVec 32) = BitVec.ofInt 32 0 := rfl
  generalize a.toInt = x
  generalize b.toInt = y
  have k : ∀ m n : Nat, ((m : Int) : Int).tdiv n = ((m / n : Nat) : Int) := fun m n => by simp
  rw [← BitVec.ofInt_natCast, hz, ← ofInt_sub']
  by_cases hx : x < 0 <;> by_cases hy : y < 0 <;> simp only [hx, hy, decide_true, decide_false, bne_self_eq_false, Bool.false_eq_true, reduceIte, Bool.true_bne, Bool.false_bne, Bool.not_false, Bool.not_true]
  · have e1 : x = -((x.natAbs : Nat) : Int) := by omega
    have e2 : y = -((y.natAbs : Nat) : Int) := by omega
    rw [e1, e2, Int.neg_tdiv, Int.tdiv_neg, k]; simp
  · have e1 : x = -((x.natAbs : Nat) : Int) := by omega
    have e2 : y = ((y.natAbs : Nat) : Int) := by omega
    rw [e1, e2, Int.neg_tdiv, k]; simp
  · have e1 : x = ((x.natAbs : Nat) : Int) := by omega
    have e2 : y = -((y.natAbs : Nat) : Int) := by omega
    rw [e1, e2, Int.tdiv_neg, k]; simp
  · have e1 : x = ((x.natAbs : Nat) : Int) := by omega
    have e2 : y = ((y.natAbs : Nat) : Int) := by omega
    rw [e1, e2, k]; simp
theorem rem_sign (a b : BitVec 32) : BitVec.ofInt 32 (a.toInt.tmod b.toInt) = if a.toInt < 0 then 0 - BitVec.ofNat 32 (a.toInt.natAbs % b.toInt.natAbs) else BitVec.ofNat 32 (a.toInt.natAbs % b.toInt.natAbs) := by
  have hz : (0 : BitVec 32) = BitVec.ofInt 32 0 := rfl
  generalize a.toInt = x
  generalize b.toInt = y
  have k : ∀ m n : Nat, ((m : Int) : Int).tmod n = ((m % n : Nat) : Int) := fun m n => rfl
  rw [← BitVec.ofInt_natCast, hz, ← ofInt_sub']
  have e0 : x.tmod y = x.tmod ((y.natAbs : Nat) : Int) := by
    by_cases hy : y < 0
    · have e2 : y = -((y.natAbs : Nat) : Int) := by omega
      rw [e2, Int.tmod_neg]; simp
    · have e2 : y = ((y.natAbs : Nat) : Int) := by omega
      rw [← e2]
  rw [e0]
  by_cases hx : x < 0
  · have e1 : x = -((x.natAbs : Nat) : Int) := by omega
    rw [if_pos hx]
    rw [e1, Int.neg_tmod, k]; simp
  · have e1 : x = ((x.natAbs : Nat) : Int) := by omega
    rw [if_neg hx]
    rw [e1, k]; simp
theorem divided_spec (a b : BitVec 32) (hb : b ≠ 0#32) : Spec Tryz.prog G 169 [.int .u32 a.toNat, .int .u32 b.toNat] h
    (Is (.tup [.int .u32 (BitVec.ofInt 32 (a.toInt.tdiv b.toInt)).toNat, .int .u32 (BitVec.ofInt 32 (a.toInt.tmod b.toInt)).toNat]) h) := by
  refine Spec.isD C169ok rfl ?_
  simp only [push_cast, simprocAttr]
  intro c1 h1 c2 h2 c3 h3 c4 h4
  obtain ⟨n4, h4'⟩ := upd_none h4
  obtain ⟨n42, h4''⟩ := upd_none h4'
  obtain ⟨n41, h40⟩ := upd_none h4''
  obtain ⟨n32, h3'⟩ := upd_none h3
  obtain ⟨n31, h30⟩ := upd_none h3'
  obtain ⟨n21, h20⟩ := upd_none h2
  clear h4 h4' h4'' h3 h3' h2
  obtain ⟨H, hH⟩ : ∃ H, upd (upd (upd (upd h c1 ⟨[.int .u32 a.toNat], 0⟩) c2 ⟨[.int .u32 b.toNat], 0⟩) c3 ⟨[.int .u32 0], 0⟩) c4 ⟨[.int .u32 0], 0⟩ = H := ⟨_, rfl⟩
  have k1 : H c1 = some (cell1 a) := by rw [← hH, upd_ne (Ne.symm n41), upd_ne (Ne.symm n31), upd_ne (Ne.symm n21), upd_same]
  have k2 : H c2 = some (cell1 b) := by rw [← hH, upd_ne (Ne.symm n42), upd_ne (Ne.symm n32), upd_same]
  have k3 : H c3 = some (cell1 0) := by rw [← hH, upd_ne (Ne.symm n4), upd_same]; rfl
  have k4 : H c4 = some (cell1 0) := by rw [← hH, upd_same]; rfl
  have hs : ∀ c, c ≠ c1 → c ≠ c2 → c ≠ c3 → c ≠ c4 → H c = h c := by
    intro c q1 q2 q3 q4
    rw [← hH, upd_ne q4, upd_ne q3, upd_ne q2, upd_ne q1]
  rw [hH]
  clear hH
  simp only [push_cast, simprocAttr, k1, k2]
  refine (size_spec a).to ?_
  simp only [push_cast, simprocAttr, k1, k2]
  refine (size_spec b).to ?_
  have hbz := div_zero_iff b hb
  have hz : (((BitVec.ofNat 32 b.toInt.natAbs).toNat : Int) = 0) = False := by rw [size_nat]; simp; omega
  simp only [push_cast, simprocAttr, k1, k2, hz]
  refine (size_spec a).to ?_
  simp only [push_cast, simprocAttr, k1, k2, hz]
  refine (size_spec b).to ?_
  simp only [push_cast, simprocAttr, k1, k2, hz]
  have hq : BitVec.ofInt 32 (((BitVec.ofNat 32 a.toInt.natAbs).toNat : Int) / ((BitVec.ofNat 32 b.toInt.natAbs).toNat : Int)) = BitVec.ofNat 32 (a.toInt.natAbs / b.toInt.natAbs) := by
    rw [size_nat, size_nat, ← Int.natCast_ediv, BitVec.ofInt_natCast]
  have hm : (((BitVec.ofNat 32 a.toInt.natAbs).toNat : Int) % ((BitVec.ofNat 32 b.toInt.natAbs).toNat : Int)) = ((BitVec.ofNat 32 (a.toInt.natAbs % b.toInt.natAbs)).toNat : Int) := by
    have h1 := abs_le a
    have h2 : a.toInt.natAbs % b.toInt.natAbs ≤ a.toInt.natAbs := Nat.mod_le _ _
    rw [size_nat, size_nat, ← Int.natCast_emod]
    congr 1
    rw [BitVec.toNat_ofNat]
    exact (Nat.mod_eq_of_lt (by omega)).symm
  rw [hq, hm]
  obtain ⟨q, hqq⟩ : ∃ q, BitVec.ofNat 32 (a.toInt.natAbs / b.toInt.natAbs) = q := ⟨_, rfl⟩
  obtain ⟨r, hrr⟩ : ∃ r, BitVec.ofNat 32 (a.toInt.natAbs % b.toInt.natAbs) = r := ⟨_, rfl⟩
  have q1 := quo_sign a b
  have r1 := rem_sign a b
  rw [hqq] at q1 ⊢
  rw [hrr] at r1 ⊢
  simp only [push_cast, simprocAttr, k3]
  obtain ⟨H1, e1⟩ : ∃ H1, upd H c3 (cell1 q) = H1 := ⟨_, rfl⟩
  have l1 : H1 c1 = some (cell1 a) := by rw [← e1, upd_ne (Ne.symm n31), k1]
  have l2 : H1 c2 = some (cell1 b) := by rw [← e1, upd_ne (Ne.symm n32), k2]
  have l3 : H1 c3 = some (cell1 q) := by rw [← e1, upd_same]
  have l4 : H1 c4 = some (cell1 0) := by rw [← e1, upd_ne n4, k4]
  have ls : ∀ c, c ≠ c1 → c ≠ c2 → c ≠ c3 → c ≠ c4 → H1 c = h c := by
    intro c q1 q2 q3 q4
    rw [← e1, upd_ne q3, hs c q1 q2 q3 q4]
  rw [e1]
  clear e1
  simp only [push_cast, simprocAttr, l4]
  obtain ⟨H2, e2⟩ : ∃ H2, upd H1 c4 (cell1 r) = H2 := ⟨_, rfl⟩
  have m1 : H2 c1 = some (cell1 a) := by rw [← e2, upd_ne (Ne.symm n41), l1]
  have m2 : H2 c2 = some (cell1 b) := by rw [← e2, upd_ne (Ne.symm n42), l2]
  have m3 : H2 c3 = some (cell1 q) := by rw [← e2, upd_ne (Ne.symm n4), l3]
  have m4 : H2 c4 = some (cell1 r) := by rw [← e2, upd_same]
  have ms : ∀ c, c ≠ c1 → c ≠ c2 → c ≠ c3 → c ≠ c4 → H2 c = h c := by
    intro c q1 q2 q3 q4
    rw [← e2, upd_ne q4, ls c q1 q2 q3 q4]
  rw [e2]
  clear e2
  refine ⟨by rw [if_neg (by rw [hz]; exact id), hm, hrr], SpecD.mono (divided1_spec a b q r _ _ m1 m2 m3 m4 (Ne.symm n31) (Ne.symm n4) q1 r1) ?_⟩
  rintro _ h5 ⟨p1, p2, p3⟩
  simp only [push_cast, simprocAttr, p1, p2]
  intro c x hc
  have hne : ∀ d, h d = none → c ≠ d := fun d hd e => by rw [e, hd] at hc; cases hc
  have f1 := hne _ h1
  have f2 := hne _ h20
  have f3 := hne _ h30
  have f4 := hne _ h40
  rw [p3 c f3 f4, ms c f1 f2 f3 f4]
  exact hc
end Go.Ab
end
section
/- What instructions reckon: the program's and the document's. -/
set_option linter.unusedSimpArgs false
set_option linter.unusedVariables false
set_option maxRecDepth 10000
namespace Go.Ab
open Go.Proofs
variable {G : Glo} {h : Heap}
theorem toNat_z {b : BitVec 32} (hb : ¬ b = 0#32) : ((b.toNat : Int) == 0) = false ∧ ((b.toNat : Int) = 0) = False := by
  have : ((b.toNat : Int) == 0) = false := by
    rw [beq_eq_false_iff_ne]
    intro e
    exact hb (by rw [← BitVec.toNat_inj]; simpa using e)
  exact ⟨this, by simpa using this⟩
theorem udiv_int (a b : BitVec 32) : BitVec.ofInt 32 ((a.toNat : Int) / (b.toNat : Int)) = a / b := by
  rw [← Int.natCast_ediv, BitVec.ofInt_natCast]
  apply BitVec.eq_of_toNat_eq
  have := a.isLt
  have h2 : a.toNat / b.toNat ≤ a.toNat := Nat.div_le_self _ _
  rw [BitVec.toNat_ofNat, BitVec.toNat_udiv, Nat.mod_eq_of_lt (by omega)]
theorem umod_int (a b : BitVec 32) : ((a.toNat : Int) % (b.toNat : Int)) = ((a % b).toNat : Int) := by
  rw [BitVec.toNat_umod, Int.natCast_emod]
def quoN (a b : BitVec 32) (s : Bool) : BitVec 32 := if b = 0#32 then 0xffffffff#32 else if s then BitVec.ofInt 32 (a.toInt.tdiv b.toInt) else a / b
def remN (a b : BitVec 32) (s : Bool) : BitVec 32 := if b = 0#32 then a else if s then BitVec.ofInt 32 (a.toInt.tmod b.toInt) else a % b
theorem quotient_spec (a b : BitVec 32) (s : Bool) : Spec Tryz.prog G 162 [.int .u32 a.toNat, .int .u32 b.toNat, .bool s] h (Is (.tup [.int .u32 (quoN a b s).toNat, .int .u32 (remN a b s).toNat]) h) := by
  by_cases hb : b = 0#32
  · have h1 : quoN a b s = 0xffffffff#32 := by rw [quoN, if_pos hb]
    have h2 : remN a b s = a := by rw [remN, if_pos hb]
    have hb0 : ((b.toNat : Int) == 0) = true := by rw [hb]; rfl
    obtain ⟨v, hv⟩ : ∃ v, (0xffffffff#32) = v := ⟨_, rfl⟩
    rw [h1, h2, hv]
    refine Spec.is C162ok rfl ?_
    simp only [push_cast, simprocAttr, hb0]
    rw [← hv]; rfl
  · have h1 : quoN a b s = if s then BitVec.ofInt 32 (a.toInt.tdiv b.toInt) else a / b := by rw [quoN, if_neg hb]
    have h2 : remN a b s = if s then BitVec.ofInt 32 (a.toInt.tmod b.toInt) else a % b := by rw [remN, if_neg hb]
    obtain ⟨hb0, hb1⟩ := toNat_z hb
    rw [h1, h2]
    cases s with
    | true =>
      refine Spec.is C162ok rfl ?_
      simp only [push_cast, simprocAttr, hb0, hb1]
      refine (divided_spec a b hb).to ?_
      simp only [push_cast, simprocAttr]
    | false =>
      refine Spec.is C162ok rfl ?_
      simp only [push_cast, simprocAttr, hb0, hb1]
      rw [udiv_int, umod_int]
theorem Do_md (op : Int) (a b : BitVec 32) : Spec Tryz.prog G 135 [.int .i64 op, .int .u32 a.toNat, .int .u32 b.toNat] h (Is (.tup [.int .u32 (mdN op a b).toNat, .int .i64 (mdE op)]) h) := by
  by_cases hr : 50 ≤ op ∧ op ≤ 57
  · have hE : mdE op = 0 := by rw [mdE, if_pos hr]
    rw [hE]
    have hc : op = 50 ∨ op = 51 ∨ op = 52 ∨ op = 53 ∨ op = 54 ∨ op = 55 ∨ op = 56 ∨ op = 57 := by omega
    rcases hc with rfl | rfl | rfl | rfl | rfl | rfl | rfl | rfl
    · refine Spec.is C135ok rfl ?_
      simp only [push_cast, simprocAttr]
      rfl
    · refine Spec.is C135ok rfl ?_
      simp only [push_cast, simprocAttr]
      refine (upper_spec a b true true).to ?_
      simp only [push_cast, simprocAttr]
      rfl
    · refine Spec.is C135ok rfl ?_
      simp only [push_cast, simprocAttr]
      refine (upper_spec a b true false).to ?_
      simp only [push_cast, simprocAttr]
      rfl
    · refine Spec.is C135ok rfl ?_
      simp only [push_cast, simprocAttr]
      refine (upper_spec a b false false).to ?_
      simp only [push_cast, simprocAttr]
      show _ = AV.tup [.int .u32 (BitVec.ofNat 32 (a.toNat * b.toNat / 4294967296)).toNat, _]
      rw [← BitVec.ofInt_natCast]; rfl
    · refine Spec.is C135ok rfl ?_
      simp only [push_cast, simprocAttr]
      refine (quotient_spec a b true).to ?_
      simp only [push_cast, simprocAttr]
      rfl
    · refine Spec.is C135ok rfl ?_
      simp only [push_cast, simprocAttr]
      refine (quotient_spec a b false).to ?_
      simp only [push_cast, simprocAttr]
      rfl
    · refine Spec.is C135ok rfl ?_
      simp only [push_cast, simprocAttr]
      refine (quotient_spec a b true).to ?_
      simp only [push_cast, simprocAttr]
      rfl
    · refine Spec.is C135ok rfl ?_
      simp only [push_cast, simprocAttr]
      refine (quotient_spec a b false).to ?_
      simp only [push_cast, simprocAttr]
      rfl
  · have hE : mdE op = 9 := by rw [mdE, if_neg hr]
    have e0 : (op = 50) = False := by simp; omega
    have e1 : (op = 51) = False := by simp; omega
    have e2 : (op = 52) = False := by simp; omega
    have e3 : (op = 53) = False := by simp; omega
    have e4 : (op = 54) = False := by simp; omega
    have e5 : (op = 55) = False := by simp; omega
    have e6 : (op = 56) = False := by simp; omega
    have e7 : (op = 57) = False := by simp; omega
    have hN : mdN op a b = 0 := by simp only [mdN, e0, e1, e2, e3, e4, e5, e6, e7, if_false]
    rw [hE, hN]
    refine Spec.is C135ok rfl ?_
    simp only [push_cast, simprocAttr, e0, e1, e2, e3, e4, e5, e6, e7]
theorem prod_le {x y : Int} {M N : Nat} (hx : x.natAbs ≤ M) (hy : y.natAbs ≤ N) : (x * y).natAbs ≤ M * N := by
  rw [Int.natAbs_mul]; exact Nat.mul_le_mul hx hy
theorem wide64 (a b : BitVec 32) : (BitVec.setWidth 64 a * BitVec.setWidth 64 b).toNat = a.toNat * b.toNat := by
  have la := a.isLt
  have lb := b.isLt
  rw [BitVec.toNat_mul, sw64, sw64, Nat.mod_eq_of_lt]
  have := Nat.mul_le_mul (show a.toNat ≤ 4294967295 by omega) (show b.toNat ≤ 4294967295 by omega)
  omega
theorem rDo_md (op : Int) (a b : BitVec 32) (hr : 50 ≤ op ∧ op ≤ 57) : Spec Tryz.prog G 104 [.int .i64 op, .int .u32 a.toNat, .int .u32 b.toNat] h (Is (.int .u32 (mdN op a b).toNat) h) := by
  have la := a.isLt
  have lb := b.isLt
  have ba := abs_le a
  have bb := abs_le b
  have p1 := prod_le ba bb
  have p2 := prod_le ba (show ((b.toNat : Int)).natAbs ≤ 4294967295 by omega)
  have wm := wide64 a b
  have hc : op = 50 ∨ op = 51 ∨ op = 52 ∨ op = 53 ∨ op = 54 ∨ op = 55 ∨ op = 56 ∨ op = 57 := by omega
  rcases hc with rfl | rfl | rfl | rfl | rfl | rfl | rfl | rfl
  all_goals
    refine Spec.is C104ok rfl ?_
    simp only [push_cast, simprocAttr]
    refine (Signed_spec a).to ?_
    simp only [push_cast, simprocAttr]
    refine (Signed_spec b).to ?_
    simp only [push_cast, simprocAttr]
  · rw [wm, show (4294967296 : Int) = ((4294967296 : Nat) : Int) from rfl, tmod_nat, BitVec.ofInt_natCast]
    congr 2
    show _ = (a * b).toNat
    rw [BitVec.toNat_mul, BitVec.toNat_ofNat]; simp
  · rw [wrap_i64 (x := a.toInt * b.toInt) (by omega) (by omega)]
    refine (high_spec (a.toInt * b.toInt) (by omega) (by omega)).to ?_
    simp only [push_cast, simprocAttr]
    rfl
  · rw [wrap_i64 (x := a.toInt * (b.toNat : Int)) (by omega) (by omega)]
    refine (high_spec (a.toInt * (b.toNat : Int)) (by omega) (by omega)).to ?_
    simp only [push_cast, simprocAttr]
    rfl
  · rw [wm, show (4294967296 : Int) = ((4294967296 : Nat) : Int) from rfl, tdiv_nat, BitVec.ofInt_natCast]
    congr 2
    show _ = (BitVec.ofNat 32 (a.toNat * b.toNat / 4294967296)).toNat
    rw [BitVec.toNat_setWidth, BitVec.toNat_ofNat, BitVec.toNat_ofNat]
    omega
  · by_cases hb : b = 0#32
    · have hb0 : (b.toNat : Int) = 0 := by rw [hb]; rfl
      refine ⟨fun _ => ?_, fun q => absurd hb0 q⟩
      show _ = AV.int .u32 (if b = 0#32 then 0xffffffff#32 else _ : BitVec 32).toNat
      rw [if_pos hb]; rfl
    · refine ⟨fun q => absurd q (by rw [(toNat_z hb).2]; exact id), fun _ => ⟨div_zero_iff b hb, ?_⟩⟩
      have h1 := Int.natAbs_tdiv_le_natAbs a.toInt b.toInt
      rw [wrap_i64 (by omega) (by omega)]
      refine (Word_spec _).to ?_
      simp only [push_cast, simprocAttr]
      show _ = AV.int .u32 (if b = 0#32 then _ else _ : BitVec 32).toNat
      rw [if_neg hb]
  · by_cases hb : b = 0#32
    · have hb0 : (b.toNat : Int) = 0 := by rw [hb]; rfl
      refine ⟨fun _ => ?_, fun q => absurd hb0 q⟩
      show _ = AV.int .u32 (if b = 0#32 then 0xffffffff#32 else _ : BitVec 32).toNat
      rw [if_pos hb]; rfl
    · refine ⟨fun q => absurd q (by rw [(toNat_z hb).2]; exact id), fun _ => ⟨by rw [(toNat_z hb).2]; exact id, ?_⟩⟩
      show _ = AV.int .u32 (if b = 0#32 then _ else _ : BitVec 32).toNat
      rw [if_neg hb, udiv_int]
  · by_cases hb : b = 0#32
    · have hb0 : (b.toNat : Int) = 0 := by rw [hb]; rfl
      refine ⟨fun _ => ?_, fun q => absurd hb0 q⟩
      show _ = AV.int .u32 (if b = 0#32 then a else _ : BitVec 32).toNat
      rw [if_pos hb]
    · refine ⟨fun q => absurd q (by rw [(toNat_z hb).2]; exact id), fun _ => ⟨div_zero_iff b hb, (Word_spec _).to ?_⟩⟩
      simp only [push_cast, simprocAttr]
      show _ = AV.int .u32 (if b = 0#32 then _ else _ : BitVec 32).toNat
      rw [if_neg hb]
  · by_cases hb : b = 0#32
    · have hb0 : (b.toNat : Int) = 0 := by rw [hb]; rfl
      refine ⟨fun _ => ?_, fun q => absurd hb0 q⟩
      show _ = AV.int .u32 (if b = 0#32 then a else _ : BitVec 32).toNat
      rw [if_pos hb]
    · refine ⟨fun q => absurd q (by rw [(toNat_z hb).2]; exact id), fun _ => ⟨by rw [(toNat_z hb).2]; exact id, ?_⟩⟩
      show _ = AV.int .u32 (if b = 0#32 then _ else _ : BitVec 32).toNat
      rw [if_neg hb, umod_int]
/-- Bits of two words, by a table. -/
theorem fld1 (a : BitVec 32) (k : Nat) : fld a k 1 = (a.toNat.testBit k).toNat := by
  unfold fld
  rw [Nat.testBit_eq_decide_div_mod_eq]
  have : a.toNat / 2 ^ k % 2 < 2 := Nat.mod_lt _ (by omega)
  by_cases h1 : a.toNat / 2 ^ k % 2 = 1
  · simp [h1]
  · have : a.toNat / 2 ^ k % 2 = 0 := by omega
    simp [this]
theorem bits_spec (a b x : BitVec 32) (f0 f1 f2 : Nat) (hf : ∀ i, i < 32 → [f0, f1, f2].getD (fld a i 1 + fld b i 1) 0 = (x.toNat.testBit i).toNat) (hfl : f0 ≤ 1 ∧ f1 ≤ 1 ∧ f2 ≤ 1) :
    Spec Tryz.prog G 143 [.int .u32 a.toNat, .int .u32 b.toNat, .ro [.int .u64 f0, .int .u64 f1, .int .u64 f2] 3] h (Is (.int .u32 x.toNat) h) := by
  refine Spec.is C143ok rfl ?_
  simp only [push_cast, simprocAttr]
  have hx := x.isLt
  refine lpc.rel [0, 1, 2, 7, 8] (fun m ρ h' => ∃ k s, m = 32 - k ∧ k ≤ 32 ∧ h = h' ∧ s = x.toNat % 2 ^ k ∧ ρ = [(0, .int .u32 a.toNat), (1, .int .u32 b.toNat), (2, .ro [.int .u64 f0, .int .u64 f1, .int .u64 f2] 3), (7, .int .u64 (s : Int)), (8, .int .i64 (k : Int))]) ⟨32, 0, 0, rfl, by omega, rfl, by simp [Nat.mod_one], rfl⟩ ?_
  rintro m _ _ ⟨k, s, rfl, hk, rfl, hsx, rfl⟩
  simp only [push_cast, simprocAttr]
  refine ⟨fun hk2 => (Bits_spec a k 1 (by omega) (by omega)).to ?_, fun hk2 => ?_⟩
  · simp only [push_cast, simprocAttr]
    refine (Bits_spec b k 1 (by omega) (by omega)).to ?_
    simp only [push_cast, simprocAttr]
    have hfk := hf k (by omega)
    have l1 := fld_lt a k 1
    have l2 := fld_lt b k 1
    obtain ⟨u, hu⟩ : ∃ u, fld a k 1 + fld b k 1 = u := ⟨_, rfl⟩
    have eu : (BitVec.ofNat 32 (fld a k 1) + BitVec.ofNat 32 (fld b k 1)).toNat = u := by
      rw [BitVec.toNat_add, BitVec.toNat_ofNat, BitVec.toNat_ofNat]; omega
    rw [hu] at hfk
    rw [eu]
    have hu3 : u < 3 := by omega
    have hs2 : x.toNat % 2 ^ (k + 1) = s + 2 ^ k * (x.toNat.testBit k).toNat := by rw [Nat.pow_succ, Nat.mod_mul, ← hsx, ← fld1]; simp [fld]
    have hp := Nat.pow_le_pow_right (show 0 < 2 by omega) (show k ≤ 31 by omega)
    have hsl : s < 2 ^ k := hsx ▸ Nat.mod_lt _ (Nat.two_pow_pos k)
    obtain ⟨P, hP⟩ : ∃ P, 2 ^ k = P := ⟨_, rfl⟩
    rw [hP] at hs2 hp hsl
    obtain ⟨f, hff, hf1⟩ : ∃ f : Nat, [AV.int .u64 (f0 : Int), AV.int .u64 (f1 : Int), AV.int .u64 (f2 : Int)][u]? = some (.int .u64 (f : Int)) ∧ f = (x.toNat.testBit k).toNat := by
      match u, hu3, hfk with
      | 0, _, hfk => exact ⟨f0, rfl, hfk⟩
      | 1, _, hfk => exact ⟨f1, rfl, hfk⟩
      | 2, _, hfk => exact ⟨f2, rfl, hfk⟩
    refine ⟨by omega, ?_⟩
    simp only [push_cast, simprocAttr, hff]
    refine (PowV (by omega) hP).to ?_
    have hfb : f ≤ 1 := by rw [hf1]; cases x.toNat.testBit k <;> simp
    rw [← hf1] at hs2
    have h01 : f = 0 ∨ f = 1 := by omega
    clear hf1 hfb
    rcases h01 with rfl | rfl
    · simp (disch := omega) only [push_cast, simprocAttr, wrap_i64, toNat_ofInt64, Nat.min_eq_left, Int.toNat_of_nonneg, hff]
      refine ⟨by rw [if_pos (by omega)], ?_⟩
      rw [Int.zero_mul, Int.add_zero]
      exact ⟨_, _, by omega, .refl _, k + 1, s, rfl, by omega, rfl, by omega, rfl⟩
    · simp (disch := omega) only [push_cast, simprocAttr, wrap_i64, toNat_ofInt64, Nat.min_eq_left, Int.toNat_of_nonneg, hff]
      refine ⟨by rw [if_pos (by omega)], ?_⟩
      rw [show (s : Int) + 1 * (P : Int) = ((s + P : Nat) : Int) by omega]
      exact ⟨_, _, by omega, .refl _, k + 1, s + P, rfl, by omega, rfl, by omega, rfl⟩
  · obtain rfl : k = 32 := by omega
    rw [BitVec.ofInt_natCast, hsx, Nat.mod_eq_of_lt hx]
    simp
theorem rPlain_spec (op : Int) (hr : 19 ≤ op ∧ op ≤ 37) : Spec Tryz.prog G 141 [.int .i64 op] h (Is (.int .i64 (plainN op)) h) := by
  refine Spec.is C141ok rfl ?_
  simp only [push_cast, simprocAttr]
  refine (rHas7_spec op).to ?_
  have e1 : decide (19 ≤ op) = true := decide_eq_true hr.1
  have e2 : decide (op ≤ 37) = true := decide_eq_true hr.2
  simp only [push_cast, simprocAttr, e1, e2]
  have hc : op = 19 ∨ op = 20 ∨ op = 21 ∨ op = 22 ∨ op = 23 ∨ op = 24 ∨ op = 25 ∨ op = 26 ∨ op = 27 ∨ 27 < op := by omega
  rcases hc with rfl | rfl | rfl | rfl | rfl | rfl | rfl | rfl | rfl | hc
  any_goals first
    | (simp (disch := omega) only [push_cast, simprocAttr, wrap_i64, toNat_ofInt64, Nat.min_eq_left, Int.toNat_of_nonneg]; done)
    | (simp (disch := omega) only [push_cast, simprocAttr, wrap_i64, toNat_ofInt64, Nat.min_eq_left, Int.toNat_of_nonneg]; rfl)
  have h27 : (op ≤ 27) = False := by simp; omega
  simp only [push_cast, simprocAttr, h27]
  unfold plainN
  rw [if_neg (by omega), if_neg (by omega), if_neg (by omega), if_neg (by omega), if_neg (by omega), if_neg (by omega), if_neg (by omega), if_neg (by omega), if_neg (by omega), if_pos hr]
theorem rDo_alu (op : Int) (a b : BitVec 32) (hr : 19 ≤ op ∧ op ≤ 37) : Spec Tryz.prog G 105 [.int .i64 op, .int .u32 a.toNat, .int .u32 b.toNat] h (Is (.int .u32 (aluN op a b).toNat) h) := by
  have ba := abs_le a
  have bb := abs_le b
  have la := a.isLt
  have lb := b.isLt
  have hp : 28 ≤ plainN op ∧ plainN op ≤ 37 := by rcases plain_range op with h1 | h1 <;> omega
  have hP := rPlain_spec (G := G) (h := h) op hr
  rw [aluN]
  generalize plainN op = p at hp hP ⊢
  have hc : p = 28 ∨ p = 29 ∨ p = 30 ∨ p = 31 ∨ p = 32 ∨ p = 33 ∨ p = 34 ∨ p = 35 ∨ p = 36 ∨ p = 37 := by omega
  refine Spec.is C105ok rfl ?_
  simp (disch := omega) only [push_cast, simprocAttr, wrap_i64, toNat_ofInt64, Nat.min_eq_left, Int.toNat_of_nonneg]
  refine (Signed_spec a).to ?_
  simp only [push_cast, simprocAttr]
  refine (Signed_spec b).to ?_
  simp only [push_cast, simprocAttr]
  refine hP.to ?_
  clear hP
  obtain ⟨n, hn⟩ : ∃ n, b.toNat % 32 = n := ⟨_, rfl⟩
  have hn31 : n ≤ 31 := by omega
  have es : IntKind.i64.wrap ((b.toNat : Int).tmod 32) = (n : Int) := by
    rw [show (32 : Int) = ((32 : Nat) : Int) from rfl, tmod_nat, wrap_i64 (by omega) (by omega), hn]
  obtain ⟨P, hP⟩ : ∃ P, 2 ^ n = P := ⟨_, rfl⟩
  have hP0 : 0 < P := hP ▸ Nat.two_pow_pos n
  have hP2 : P ≤ 2 ^ 31 := hP ▸ Nat.pow_le_pow_right (by omega) hn31
  have hPz : ((P : Int) = 0) = False := by simp; omega
  rcases hc with rfl | rfl | rfl | rfl | rfl | rfl | rfl | rfl | rfl | rfl
  all_goals simp only [push_cast, simprocAttr]
  · rw [wrap_i64 (by omega) (by omega)]
    refine (Word_spec _).to ?_
    simp only [push_cast, simprocAttr]
    rw [BitVec.ofInt_add, BitVec.ofInt_toInt, BitVec.ofInt_toInt]
    simp [aluP]
  · rw [wrap_i64 (by omega) (by omega)]
    refine (Word_spec _).to ?_
    simp only [push_cast, simprocAttr]
    rw [ofInt_sub', BitVec.ofInt_toInt, BitVec.ofInt_toInt]
    simp [aluP]
  · rw [es]
    refine (PowV (by omega) hP).to ?_
    have e1 : aluP 30 a b = a <<< n := by simp [aluP, hn]
    rw [e1]
    have e2 : (BitVec.setWidth 64 a * BitVec.ofInt 64 (P : Int)).toNat = a.toNat * P := by
      rw [BitVec.ofInt_natCast]
      have := Nat.mul_le_mul (show a.toNat ≤ 4294967295 by omega) hP2
      rw [BitVec.toNat_mul, sw64, BitVec.toNat_ofNat, Nat.mod_eq_of_lt (show P < 2 ^ 64 by omega), Nat.mod_eq_of_lt (by omega)]
    simp only [push_cast, simprocAttr]
    rw [e2, show (4294967296 : Int) = ((4294967296 : Nat) : Int) from rfl, tmod_nat, BitVec.ofInt_natCast]
    congr 2
    rw [BitVec.toNat_shiftLeft, Nat.shiftLeft_eq, hP, BitVec.toNat_ofNat]
    simp
  · refine (rone_spec _).to ?_
    simp only [push_cast, simprocAttr]
    simp [aluP]
  · refine (rone_spec _).to ?_
    simp only [push_cast, simprocAttr]
    simp [aluP]
  · refine (bits_spec a b (a ^^^ b) 0 1 0 (fun i _ => ?_) (by omega)).to ?_
    · rw [fld1, fld1, BitVec.toNat_xor, Nat.testBit_xor]
      cases a.toNat.testBit i <;> cases b.toNat.testBit i <;> rfl
    · simp only [push_cast, simprocAttr]
      simp [aluP]
  · rw [es]
    refine (PowV (by omega) hP).to ?_
    have e1 : aluP 34 a b = a >>> n := by simp [aluP, hn]
    rw [e1]
    simp only [push_cast, simprocAttr, hPz]
    congr 2
    have := Nat.div_le_self a.toNat P
    rw [sw64, ← Int.natCast_ediv, BitVec.ofInt_natCast, BitVec.toNat_setWidth, BitVec.toNat_ofNat, BitVec.toNat_ushiftRight, Nat.shiftRight_eq_div_pow, hP]
    generalize a.toNat / P = q at *
    omega
  · rw [es]
    have e1 : aluP 35 a b = a.sshiftRight n := by simp [aluP, hn]
    rw [e1]
    refine (rright_spec a.toInt n (by have := ba; clear es; omega) (by have := BitVec.toInt_lt (x := a); clear es; omega) hn31).to ?_
    simp only [push_cast, simprocAttr]
    refine (Word_spec _).to ?_
    simp only [push_cast, simprocAttr]
    rw [← sar_eq, Int.fdiv_eq_ediv_of_nonneg _ (by rw [pow_int]; exact Int.natCast_nonneg _)]
  · refine (bits_spec a b (a ||| b) 0 1 1 (fun i _ => ?_) (by omega)).to ?_
    · rw [fld1, fld1, BitVec.toNat_or, Nat.testBit_or]
      cases a.toNat.testBit i <;> cases b.toNat.testBit i <;> rfl
    · simp only [push_cast, simprocAttr]
      simp [aluP]
  · refine (bits_spec a b (a &&& b) 0 0 1 (fun i _ => ?_) (by omega)).to ?_
    · rw [fld1, fld1, BitVec.toNat_and, Nat.testBit_and]
      cases a.toNat.testBit i <;> cases b.toNat.testBit i <;> rfl
    · simp only [push_cast, simprocAttr]
      simp [aluP]
/-- What an operation that reckons gives, and whether it does. -/
def reckN (op : Int) (a b : BitVec 32) : BitVec 32 := if 50 ≤ op ∧ op ≤ 57 then mdN op a b else aluN op a b
theorem Reckon_spec (op : Int) (a b : BitVec 32) (hr : reckonsN op = true) : Spec Tryz.prog G 71 [.int .i64 op, .int .u32 a.toNat, .int .u32 b.toNat] h (Is (.int .u32 (reckN op a b).toNat) h) := by
  refine Spec.is C71ok rfl ?_
  simp only [push_cast, simprocAttr]
  refine (rHas8_spec op).to ?_
  simp only [reckonsN, Bool.or_eq_true, Bool.and_eq_true, decide_eq_true_eq] at hr
  unfold reckN
  by_cases hm : 50 ≤ op ∧ op ≤ 57
  · rw [if_pos hm, decide_eq_true hm.1, decide_eq_true hm.2]
    simp only [push_cast, simprocAttr]
    refine (rDo_md op a b hm).to ?_
    simp only [push_cast, simprocAttr]
  · have : (decide (50 ≤ op) && decide (op ≤ 57)) = false := by simp; omega
    rw [if_neg hm]
    simp only [push_cast, simprocAttr, this]
    refine (rDo_alu op a b (by omega)).to ?_
    simp only [push_cast, simprocAttr]
/-- The value of an operation that asks for nothing but values. -/
def pureN (o : IOp) (a b : BitVec 32) : BitVec 32 × Bool :=
  if o.code = 2 then (o.imm, true) else if o.code = 3 then (if reckonsN o.imm.toNat then (reckN o.imm.toNat a b, true) else (0, false)) else (0, false)
theorem Pure_spec (o : IOp) (a b : BitVec 32) : Spec Tryz.prog G 98 [.agg o.cells, .int .u32 a.toNat, .int .u32 b.toNat] h (Is (.tup [.int .u32 (pureN o a b).1.toNat, .bool (pureN o a b).2]) h) := by
  obtain ⟨n, hn⟩ : ∃ n : Int, (o.imm.toNat : Int) = n := ⟨_, rfl⟩
  have hN : pureN o a b = if o.code = 2 then (o.imm, true) else if o.code = 3 then (if reckonsN n then (reckN n a b, true) else (0, false)) else (0, false) := by rw [← hn]; rfl
  generalize pureN o a b = N at hN ⊢
  have hw : IntKind.i64.wrap n = n := by rw [← hn]; exact i64_toNat _
  refine Spec.is C98ok rfl ?_
  simp only [push_cast, simprocAttr]
  by_cases h2 : o.code = 2
  · rw [if_pos h2] at hN
    subst hN
    simp only [push_cast, simprocAttr, h2]
  · rw [if_neg h2] at hN
    have h2' : (o.code = 2) = False := by simp [h2]
    by_cases h3 : o.code = 3
    · rw [if_pos h3] at hN
      simp only [push_cast, simprocAttr, h2', h3, hn]
      refine (Reckons_spec n).to ?_
      cases hr : reckonsN n with
      | false =>
        rw [hr] at hN
        subst hN
        simp only [push_cast, simprocAttr]
      | true =>
        rw [hr] at hN
        subst hN
        simp only [push_cast, simprocAttr, hn, hw]
        refine (Do_alu n a b).to ?_
        have hr' := hr
        simp only [reckonsN, Bool.or_eq_true, Bool.and_eq_true, decide_eq_true_eq] at hr'
        by_cases hm : 50 ≤ n ∧ n ≤ 57
        · have e1 : aluE n = 9 := by rw [aluE, if_neg (by omega)]
          have e2 : reckN n a b = mdN n a b := by rw [reckN, if_pos hm]
          have e3 : mdE n = 0 := by rw [mdE, if_pos hm]
          rw [e1, e2]
          simp only [push_cast, simprocAttr, hn, hw]
          refine (Do_md n a b).to ?_
          simp only [push_cast, simprocAttr, e3]
        · have e1 : aluE n = 0 := by rw [aluE, if_pos (by omega)]
          have e2 : reckN n a b = aluN n a b := by rw [reckN, if_neg hm]
          rw [e1, e2]
          simp only [push_cast, simprocAttr, hn]
    · rw [if_neg h3] at hN
      subst hN
      have h3' : (o.code = 3) = False := by simp [h3]
      have h3'' : (o.code != 3) = true := by simp [h3]
      simp only [push_cast, simprocAttr, h2', h3', h3'']
end Go.Ab
end

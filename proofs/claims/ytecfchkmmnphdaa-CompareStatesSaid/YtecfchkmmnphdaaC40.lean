/- The code of some functions, with what their types tell written out; each is what the translation gives (kernel_rfl). Printed by mk.py out of the translation. -/
import Derived.Test.YtecfchkmmnphdaaAb10
import Derived.Test.YtecfchkmmnphdaaProg
namespace Go.Ab
open Go.Proofs
set_option maxRecDepth 100000
/-- mimesis/mimesislaw40.CompareStates -/
def C3_0 : ACode := .reg [⟨(some 2), none, .e (.box (.tmp 0))⟩, ⟨(some 3), none, .e (.box (.tmp 1))⟩, ⟨(some 4), none, .e (.asg (.const (.bool false)))⟩]
def C3_1 : ACode := .reg [⟨(some 6), none, .r (.ld (some 55) (.tmp 2))⟩, ⟨(some 7), none, .e (.call 12 [(.tmp 6)])⟩, ⟨(some 8), none, .r (.un .not (.tmp 7))⟩, ⟨(some 9), none, .r (.mv (.tmp 8))⟩, ⟨(some 10), (some (9, false)), .r (.ld (some 55) (.tmp 3))⟩, ⟨(some 11), (some (9, false)), .e (.call 12 [(.tmp 10)])⟩, ⟨(some 12), (some (9, false)), .r (.un .not (.tmp 11))⟩, ⟨(some 13), none, .r (.pick (.tmp 9) (.const (.bool true)) (.tmp 12))⟩]
def C3_2 : ACode := .reg [⟨(some 14), none, .e (.call 13 [])⟩, ⟨(some 4), none, .e (.asg (.tmp 14))⟩]
def C3_3 : ACode := .seq [4] C3_2 .ret
def C3_4 : ACode := .cond (.tmp 13) C3_3 .skip
def C3_5 : ACode := .seq [2, 3, 13] C3_1 C3_4
def C3_6 : ACode := .reg [⟨(some 15), none, .r (.ld (some 55) (.tmp 2))⟩, ⟨(some 16), none, .r (.ld (some 55) (.tmp 3))⟩, ⟨(some 17), none, .e (.call 14 [(.tmp 15), (.tmp 16)])⟩, ⟨(some 5), none, .e (.asg (.tmp 17))⟩]
def C3_7 : ACode := .reg [⟨(some 18), none, .r (.fad 1 (.tmp 3))⟩, ⟨(some 19), none, .r (.ixa 32 1 (.tmp 18) (.const (.int .i64 0)))⟩, ⟨(some 20), none, .r (.ld none (.tmp 19))⟩, ⟨(some 21), none, .r (.fad 1 (.tmp 2))⟩, ⟨(some 22), none, .r (.ixa 32 1 (.tmp 21) (.const (.int .i64 0)))⟩, ⟨none, none, .e (.st 1 (.tmp 22) (.tmp 20))⟩]
def C3_8 : ACode := .dreg [⟨(some 23), none, .r (.mv (.tmp 5))⟩, ⟨(some 24), none, .r (.ld (some 55) (.tmp 2))⟩, ⟨(some 25), none, .e (.call 17 [(.tmp 24)])⟩, ⟨(some 26), none, .r (.ld (some 55) (.tmp 3))⟩, ⟨(some 27), none, .e (.call 17 [(.tmp 26)])⟩, ⟨(some 28), none, .e (.call 16 [(.tmp 25), (.tmp 27)])⟩, ⟨(some 29), none, .e (.call 15 [(.tmp 23), (.tmp 28)])⟩, ⟨(some 30), none, .r (.mv (.tmp 29))⟩, ⟨(some 31), (some (30, true)), .r (.mv (.tmp 5))⟩, ⟨(some 32), (some (30, true)), .r (.len (.tmp 31))⟩, ⟨(some 33), (some (30, true)), .r (.bin .eql (.tmp 32) (.const (.int .i64 0)))⟩, ⟨(some 34), (some (30, true)), .r (.ld (some 55) (.tmp 2))⟩, ⟨(some 35), (some (30, true)), .e (.call 17 [(.tmp 34)])⟩, ⟨(some 36), (some (30, true)), .r (.ld (some 55) (.tmp 3))⟩, ⟨(some 37), (some (30, true)), .e (.call 17 [(.tmp 36)])⟩, ⟨(some 38), (some (30, true)), .e (.call 18 [(.tmp 35), (.tmp 37)])⟩, ⟨(some 39), (some (30, true)), .r (.eqb false (.tmp 33) (.tmp 38))⟩, ⟨(some 40), none, .r (.pick (.tmp 30) (.tmp 39) (.const (.bool false)))⟩, ⟨(some 41), none, .r (.mv (.tmp 40))⟩, ⟨(some 42), (some (41, true)), .e (.call 13 [])⟩, ⟨(some 43), none, .r (.pick (.tmp 41) (.tmp 42) (.const (.bool false)))⟩, ⟨(some 4), none, .e (.asg (.tmp 43))⟩] [[], [], [1], [], [3, 2], [2, 4, 4], [0, 5, 5], [6, 6], [7], [8, 7], [9, 7], [7], [11, 7, 7], [7], [13, 12, 7], [12, 14, 14, 7], [10, 15, 7], [7, 16], [17, 15], [18, 18], [18, 19], [20, 19, 0, 1, 2, 3, 4, 5, 6, 7, 8, 9, 10, 11, 12, 13, 14, 15, 16, 17, 18, 19, 20]] [(0, []), (1, []), (3, []), (2, [0, 3]), (4, [0]), (5, [0]), (6, []), (7, []), (8, []), (9, []), (10, []), (11, []), (13, []), (12, [8, 9, 10, 13]), (14, [8, 9, 10]), (15, [8, 9, 10]), (16, []), (17, []), (18, []), (19, []), (20, []), (21, [])]
def C3_9 : ACode := .seq [4] C3_8 .ret
def C3_10 : ACode := .seq [2, 3, 5] C3_7 C3_9
def C3_11 : ACode := .seq [2, 3, 5] C3_6 C3_10
def C3_12 : ACode := .seq [2, 3] C3_5 C3_11
def C3_13 : ACode := .seq [2, 3] C3_0 C3_12
def C3 : ACode := C3_13
def C3r : List RV := [.t 4]
theorem C3ok : trF Try.prog Try.f3 = some (C3.bare, C3r) := by kernel_rfl

/-- mimesis/mimesislaw40.CompareEvents -/
def C4_0 : ACode := .reg [⟨(some 4), none, .e (.asg (.const (.bool false)))⟩]
def C4_1 : ACode := .reg [⟨(some 5), none, .r (.mv (.tmp 0))⟩, ⟨(some 6), none, .r (.len (.tmp 5))⟩, ⟨(some 7), none, .r (.bin .gtr (.tmp 6) (.const (.int .i64 200)))⟩, ⟨(some 8), none, .r (.mv (.tmp 7))⟩, ⟨(some 9), (some (8, false)), .r (.mv (.tmp 1))⟩, ⟨(some 10), (some (8, false)), .r (.len (.tmp 9))⟩, ⟨(some 11), (some (8, false)), .r (.bin .gtr (.tmp 10) (.const (.int .i64 200)))⟩, ⟨(some 12), none, .r (.pick (.tmp 8) (.const (.bool true)) (.tmp 11))⟩]
def C4_2 : ACode := .reg [⟨(some 13), none, .e (.call 13 [])⟩, ⟨(some 4), none, .e (.asg (.tmp 13))⟩]
def C4_3 : ACode := .seq [4] C4_2 .ret
def C4_4 : ACode := .cond (.tmp 12) C4_3 .skip
def C4_5 : ACode := .seq [0, 1, 12] C4_1 C4_4
def C4_6 : ACode := .reg [⟨(some 14), none, .r (.mv (.tmp 0))⟩, ⟨(some 15), none, .r (.mv (.tmp 1))⟩, ⟨(some 16), none, .e (.call 19 [(.tmp 14), (.tmp 15)])⟩, ⟨(some 17), none, .r (.mv (.tmp 0))⟩, ⟨(some 18), none, .r (.mv (.tmp 1))⟩, ⟨(some 19), none, .e (.call 20 [(.tmp 17), (.tmp 18)])⟩, ⟨(some 20), none, .r (.bin .eql (.tmp 16) (.tmp 19))⟩, ⟨(some 21), none, .r (.mv (.tmp 20))⟩, ⟨(some 22), (some (21, true)), .r (.mv (.tmp 0))⟩, ⟨(some 23), (some (21, true)), .r (.mv (.tmp 0))⟩, ⟨(some 24), (some (21, true)), .e (.call 19 [(.tmp 22), (.tmp 23)])⟩, ⟨(some 25), (some (21, true)), .r (.bin .eql (.tmp 24) (.const (.int .i64 (-1))))⟩, ⟨(some 26), none, .r (.pick (.tmp 21) (.tmp 25) (.const (.bool false)))⟩, ⟨(some 27), none, .r (.mv (.tmp 26))⟩, ⟨(some 28), (some (27, true)), .e (.call 13 [])⟩, ⟨(some 29), none, .r (.pick (.tmp 27) (.tmp 28) (.const (.bool false)))⟩, ⟨(some 4), none, .e (.asg (.tmp 29))⟩]
def C4_7 : ACode := .seq [4] C4_6 .ret
def C4_8 : ACode := .seq [0, 1] C4_5 C4_7
def C4_9 : ACode := .seq [0, 1] C4_0 C4_8
def C4 : ACode := C4_9
def C4r : List RV := [.t 4]
theorem C4ok : trF Try.prog Try.f4 = some (C4.bare, C4r) := by kernel_rfl

/-- mimesis/mimesislaw40.CompareTexts -/
def C5_0 : ACode := .reg [⟨(some 2), none, .e (.asg (.const (.bool false)))⟩]
def C5_1 : ACode := .reg [⟨(some 5), none, .r (.mv (.tmp 0))⟩, ⟨(some 6), none, .r (.len (.tmp 5))⟩, ⟨(some 7), none, .r (.bin .gtr (.tmp 6) (.const (.int .i64 200)))⟩]
def C5_2 : ACode := .reg [⟨(some 8), none, .e (.call 13 [])⟩, ⟨(some 2), none, .e (.asg (.tmp 8))⟩]
def C5_3 : ACode := .seq [2] C5_2 .ret
def C5_4 : ACode := .cond (.tmp 7) C5_3 .skip
def C5_5 : ACode := .seq [0, 7] C5_1 C5_4
def C5_6 : ACode := .reg [⟨(some 9), none, .e (.bsl 0 [] [])⟩, ⟨(some 3), none, .e (.asg (.tmp 9))⟩]
def C5_7 : ACode := .reg [⟨(some 4), none, .e (.asg (.const (.int .i64 0)))⟩]
def C5_8 : ACode := .reg [⟨(some 10), none, .r (.mv (.tmp 4))⟩, ⟨(some 11), none, .r (.mv (.tmp 0))⟩, ⟨(some 12), none, .r (.len (.tmp 11))⟩, ⟨(some 13), none, .r (.bin .lss (.tmp 10) (.tmp 12))⟩]
def C5_9 : ACode := .cond (.tmp 13) .skip (.exit 0)
def C5_10 : ACode := .seq [0, 3, 4, 13] C5_8 C5_9
def C5_11 : ACode := .reg [⟨(some 16), none, .r (.mv (.tmp 0))⟩, ⟨(some 17), none, .r (.mv (.tmp 4))⟩, ⟨(some 18), none, .r (.ixs 4 (.tmp 16) (.tmp 17))⟩, ⟨(some 19), none, .r (.fad 1 (.tmp 18))⟩, ⟨(some 20), none, .r (.ld none (.tmp 19))⟩, ⟨(some 21), none, .r (.bin .lss (.tmp 20) (.const (.int .i64 0)))⟩, ⟨(some 22), none, .r (.mv (.tmp 21))⟩, ⟨(some 23), (some (22, false)), .r (.mv (.tmp 0))⟩, ⟨(some 24), (some (22, false)), .r (.mv (.tmp 4))⟩, ⟨(some 25), (some (22, false)), .r (.ixs 4 (.tmp 23) (.tmp 24))⟩, ⟨(some 26), (some (22, false)), .r (.fad 0 (.tmp 25))⟩, ⟨(some 27), (some (22, false)), .r (.ld none (.tmp 26))⟩, ⟨(some 28), (some (22, false)), .r (.lens (.tmp 27))⟩, ⟨(some 29), (some (22, false)), .r (.bin .gtr (.tmp 28) (.const (.int .i64 100)))⟩, ⟨(some 30), none, .r (.pick (.tmp 22) (.const (.bool true)) (.tmp 29))⟩]
def C5_12 : ACode := .reg [⟨(some 31), none, .e (.call 13 [])⟩, ⟨(some 2), none, .e (.asg (.tmp 31))⟩]
def C5_13 : ACode := .seq [2] C5_12 .ret
def C5_14 : ACode := .cond (.tmp 30) C5_13 .skip
def C5_15 : ACode := .seq [0, 3, 4, 30] C5_11 C5_14
def C5_16 : ACode := .reg [⟨(some 32), none, .r (.mv (.tmp 3))⟩, ⟨(some 33), none, .r (.mv (.tmp 0))⟩, ⟨(some 34), none, .r (.mv (.tmp 4))⟩, ⟨(some 35), none, .r (.ixs 4 (.tmp 33) (.tmp 34))⟩, ⟨(some 36), none, .r (.ld (some 4) (.tmp 35))⟩, ⟨(some 37), none, .e (.bsl 1 [.str ⟨#[]⟩, .int .i64 0, .int .u64 0, .int .u64 0] [(0, 4, (.tmp 36))])⟩, ⟨(some 38), none, .e (.app 4 40 (.tmp 32) (.tmp 37))⟩, ⟨(some 3), none, .e (.asg (.tmp 38))⟩]
def C5_17 : ACode := .seq [0, 3, 4] C5_15 C5_16
def C5_18 : ACode := .block 1 C5_17
def C5_19 : ACode := .reg [⟨(some 14), none, .r (.mv (.tmp 4))⟩, ⟨(some 15), none, .r (.bin .add (.tmp 14) (.const (.int .i64 1)))⟩, ⟨(some 4), none, .e (.asg (.tmp 15))⟩]
def C5_20 : ACode := .seq [0, 3, 4] C5_18 C5_19
def C5_21 : ACode := .seq [0, 3, 4] C5_10 C5_20
def C5_22 : ACode := .loop C5_21
def C5_23 : ACode := .block 0 C5_22
def C5_24 : ACode := .seq [0, 3, 4] C5_7 C5_23
def C5_25 : ACode := .reg [⟨(some 39), none, .r (.mv (.tmp 0))⟩, ⟨(some 40), none, .e (.call 21 [(.tmp 39)])⟩, ⟨(some 41), none, .r (.mv (.tmp 3))⟩, ⟨(some 42), none, .e (.call 22 [(.tmp 41)])⟩, ⟨(some 43), none, .r (.bin .eql (.tmp 40) (.tmp 42))⟩, ⟨(some 44), none, .r (.mv (.tmp 43))⟩, ⟨(some 45), (some (44, true)), .e (.call 13 [])⟩, ⟨(some 46), none, .r (.pick (.tmp 44) (.tmp 45) (.const (.bool false)))⟩, ⟨(some 2), none, .e (.asg (.tmp 46))⟩]
def C5_26 : ACode := .seq [2] C5_25 .ret
def C5_27 : ACode := .seq [0, 3] C5_24 C5_26
def C5_28 : ACode := .seq [0, 3] C5_6 C5_27
def C5_29 : ACode := .seq [0] C5_5 C5_28
def C5_30 : ACode := .seq [0] C5_0 C5_29
def C5 : ACode := C5_30
def C5r : List RV := [.t 2]
theorem C5ok : trF Try.prog Try.f5 = some (C5.bare, C5r) := by kernel_rfl

/-- mimesis/mimesislaw40.light -/
def C12_0 : ACode := .reg [⟨(some 1), none, .e (.box (.tmp 0))⟩, ⟨(some 2), none, .e (.asg (.const (.bool false)))⟩]
def C12_1 : ACode := .reg [⟨(some 3), none, .r (.fad 44 (.tmp 1))⟩, ⟨(some 4), none, .r (.ld none (.tmp 3))⟩, ⟨(some 5), none, .r (.len (.tmp 4))⟩, ⟨(some 6), none, .r (.bin .leq (.tmp 5) (.const (.int .i64 2000)))⟩, ⟨(some 7), none, .r (.mv (.tmp 6))⟩, ⟨(some 8), (some (7, true)), .r (.fad 45 (.tmp 1))⟩, ⟨(some 9), (some (7, true)), .r (.ld none (.tmp 8))⟩, ⟨(some 10), (some (7, true)), .r (.len (.tmp 9))⟩, ⟨(some 11), (some (7, true)), .r (.bin .leq (.tmp 10) (.const (.int .i64 100)))⟩, ⟨(some 12), none, .r (.pick (.tmp 7) (.tmp 11) (.const (.bool false)))⟩, ⟨(some 13), none, .r (.mv (.tmp 12))⟩, ⟨(some 14), (some (13, true)), .r (.fad 46 (.tmp 1))⟩, ⟨(some 15), (some (13, true)), .r (.ld none (.tmp 14))⟩, ⟨(some 16), (some (13, true)), .r (.len (.tmp 15))⟩, ⟨(some 17), (some (13, true)), .r (.bin .leq (.tmp 16) (.const (.int .i64 100)))⟩, ⟨(some 18), none, .r (.pick (.tmp 13) (.tmp 17) (.const (.bool false)))⟩, ⟨(some 19), none, .r (.mv (.tmp 18))⟩, ⟨(some 20), (some (19, true)), .r (.fad 54 (.tmp 1))⟩, ⟨(some 21), (some (19, true)), .r (.ld none (.tmp 20))⟩, ⟨(some 22), (some (19, true)), .r (.len (.tmp 21))⟩, ⟨(some 23), (some (19, true)), .r (.bin .leq (.tmp 22) (.const (.int .i64 50)))⟩, ⟨(some 24), none, .r (.pick (.tmp 19) (.tmp 23) (.const (.bool false)))⟩, ⟨(some 2), none, .e (.asg (.tmp 24))⟩]
def C12_2 : ACode := .seq [2] C12_1 .ret
def C12_3 : ACode := .seq [1] C12_0 C12_2
def C12 : ACode := C12_3
def C12r : List RV := [.t 2]
theorem C12ok : trF Try.prog Try.f12 = some (C12.bare, C12r) := by kernel_rfl

/-- mimesis/mimesislaw40.awake -/
def C13_0 : ACode := .reg [⟨(some 0), none, .e (.asg (.const (.bool false)))⟩]
def C13_1 : ACode := .reg [⟨(some 2), none, .r (.bld [.int .u32 0, .int .u32 0, .int .u32 0, .int .u32 0, .int .u32 0, .int .u32 0, .int .u32 0, .int .u32 0, .int .u32 0, .int .u32 0, .int .u32 0, .int .u32 0, .int .u32 0, .int .u32 0, .int .u32 0, .int .u32 0, .int .u32 0, .int .u32 0, .int .u32 0, .int .u32 0, .int .u32 0, .int .u32 0, .int .u32 0, .int .u32 0, .int .u32 0, .int .u32 0, .int .u32 0, .int .u32 0, .int .u32 0, .int .u32 0, .int .u32 0, .int .u32 0, .int .u32 0, .int .u32 0, .int .u32 0, .int .u32 0, .int .u32 0, .int .u32 0, .int .u32 0, .int .u32 0, .int .u64 0, .int .u64 0, .int .u64 0, .int .u64 0, .nils, .nils, .nils, .bool false, .int .i64 0, .int .u64 0, .int .u64 0, .bool false, .bool false, .int .u32 0, .nils] [])⟩, ⟨(some 3), none, .r (.bld [.int .u32 0, .int .u32 0, .int .u32 0, .int .u32 0, .int .u32 0, .int .u32 0, .int .u32 0, .int .u32 0, .int .u32 0, .int .u32 0, .int .u32 0, .int .u32 0, .int .u32 0, .int .u32 0, .int .u32 0, .int .u32 0, .int .u32 0, .int .u32 0, .int .u32 0, .int .u32 0, .int .u32 0, .int .u32 0, .int .u32 0, .int .u32 0, .int .u32 0, .int .u32 0, .int .u32 0, .int .u32 0, .int .u32 0, .int .u32 0, .int .u32 0, .int .u32 0, .int .u32 0, .int .u32 0, .int .u32 0, .int .u32 0, .int .u32 0, .int .u32 0, .int .u32 0, .int .u32 0, .int .u64 0, .int .u64 0, .int .u64 0, .int .u64 0, .nils, .nils, .nils, .bool false, .int .i64 0, .int .u64 0, .int .u64 0, .bool false, .bool false, .int .u32 0, .nils] [(0, 1, (.const (.int .u32 4)))])⟩, ⟨(some 4), none, .e (.call 14 [(.tmp 2), (.tmp 3)])⟩, ⟨(some 1), none, .e (.asg (.tmp 4))⟩]
def C13_2 : ACode := .reg [⟨(some 5), none, .r (.mv (.tmp 1))⟩, ⟨(some 6), none, .r (.len (.tmp 5))⟩, ⟨(some 7), none, .r (.bin .eql (.tmp 6) (.const (.int .i64 1)))⟩, ⟨(some 8), none, .r (.mv (.tmp 7))⟩, ⟨(some 9), (some (8, true)), .r (.mv (.tmp 1))⟩, ⟨(some 10), (some (8, true)), .e (.call 21 [(.tmp 9)])⟩, ⟨(some 11), (some (8, true)), .r (.bin .eql (.tmp 10) (.const (.string ⟨#[112, 99, 32, 48, 32, 48, 32, 52, 10]⟩)))⟩, ⟨(some 12), none, .r (.pick (.tmp 8) (.tmp 11) (.const (.bool false)))⟩, ⟨(some 13), none, .r (.mv (.tmp 12))⟩, ⟨(some 14), (some (13, true)), .e (.call 19 [(.const (.slice none 0 0)), (.const (.slice none 0 0))])⟩, ⟨(some 15), (some (13, true)), .r (.bin .eql (.tmp 14) (.const (.int .i64 (-1))))⟩, ⟨(some 16), none, .r (.pick (.tmp 13) (.tmp 15) (.const (.bool false)))⟩, ⟨(some 0), none, .e (.asg (.tmp 16))⟩]
def C13_3 : ACode := .seq [0] C13_2 .ret
def C13_4 : ACode := .seq [1] C13_1 C13_3
def C13_5 : ACode := .seq [] C13_0 C13_4
def C13 : ACode := C13_5
def C13r : List RV := [.t 0]
theorem C13ok : trF Try.prog Try.f13 = some (C13.bare, C13r) := by kernel_rfl

/-- mimesis/compare.States -/
def C14_0 : ACode := .reg [⟨(some 2), none, .e (.box (.tmp 0))⟩, ⟨(some 3), none, .e (.box (.tmp 1))⟩, ⟨(some 4), none, .e (.asg (.const (.slice none 0 0)))⟩]
def C14_1 : ACode := .reg [⟨(some 8), none, .e (.bsl 0 [] [])⟩, ⟨(some 9), none, .e (.box (.tmp 8))⟩, ⟨(some 5), none, .e (.asg (.tmp 9))⟩]
def C14_2 : ACode := .reg [⟨(some 10), none, .r (.mv (.tmp 5))⟩, ⟨(some 11), none, .r (.fad 0 (.tmp 2))⟩, ⟨(some 12), none, .r (.ld none (.tmp 11))⟩, ⟨(some 13), none, .r (.fad 0 (.tmp 3))⟩, ⟨(some 14), none, .r (.ld none (.tmp 13))⟩, ⟨(some 15), none, .e (.call 42 [(.tmp 10), (.const (.string ⟨#[112, 99]⟩)), (.const (.int .i64 0)), (.tmp 12), (.tmp 14)])⟩]
def C14_3 : ACode := .reg [⟨(some 6), none, .e (.asg (.const (.int .i64 1)))⟩]
def C14_4 : ACode := .reg [⟨(some 16), none, .r (.mv (.tmp 6))⟩, ⟨(some 17), none, .r (.bin .lss (.tmp 16) (.const (.int .i64 32)))⟩]
def C14_5 : ACode := .cond (.tmp 17) .skip (.exit 0)
def C14_6 : ACode := .seq [2, 3, 5, 6, 17] C14_4 C14_5
def C14_7 : ACode := .dreg [⟨(some 20), none, .r (.mv (.tmp 5))⟩, ⟨(some 21), none, .r (.mv (.tmp 6))⟩, ⟨(some 22), none, .r (.mv (.tmp 6))⟩, ⟨(some 23), none, .r (.fad 1 (.tmp 2))⟩, ⟨(some 24), none, .r (.ixa 32 1 (.tmp 23) (.tmp 22))⟩, ⟨(some 25), none, .r (.ld none (.tmp 24))⟩, ⟨(some 26), none, .r (.mv (.tmp 6))⟩, ⟨(some 27), none, .r (.fad 1 (.tmp 3))⟩, ⟨(some 28), none, .r (.ixa 32 1 (.tmp 27) (.tmp 26))⟩, ⟨(some 29), none, .r (.ld none (.tmp 28))⟩, ⟨(some 30), none, .e (.call 42 [(.tmp 20), (.const (.string ⟨#[114, 101, 103, 105, 115, 116, 101, 114]⟩)), (.tmp 21), (.tmp 25), (.tmp 29)])⟩] [[], [], [], [], [3, 2], [4], [], [], [7, 6], [8], [0, 1, 5, 9]] [(0, []), (1, []), (2, []), (3, []), (4, []), (5, []), (6, []), (7, []), (8, []), (9, []), (10, [])]
def C14_8 : ACode := .block 1 C14_7
def C14_9 : ACode := .reg [⟨(some 18), none, .r (.mv (.tmp 6))⟩, ⟨(some 19), none, .r (.bin .add (.tmp 18) (.const (.int .i64 1)))⟩, ⟨(some 6), none, .e (.asg (.tmp 19))⟩]
def C14_10 : ACode := .seq [2, 3, 5, 6] C14_8 C14_9
def C14_11 : ACode := .seq [2, 3, 5, 6] C14_6 C14_10
def C14_12 : ACode := .loop C14_11
def C14_13 : ACode := .block 0 C14_12
def C14_14 : ACode := .seq [2, 3, 5, 6] C14_3 C14_13
def C14_15 : ACode := .reg [⟨(some 31), none, .r (.mv (.tmp 5))⟩, ⟨(some 32), none, .r (.fad 33 (.tmp 2))⟩, ⟨(some 33), none, .r (.fad 0 (.tmp 32))⟩, ⟨(some 34), none, .r (.ld (some 7) (.tmp 33))⟩, ⟨(some 35), none, .r (.fad 33 (.tmp 3))⟩, ⟨(some 36), none, .r (.fad 0 (.tmp 35))⟩, ⟨(some 37), none, .r (.ld (some 7) (.tmp 36))⟩, ⟨(some 38), none, .e (.call 43 [(.tmp 31), (.tmp 34), (.tmp 37)])⟩]
def C14_16 : ACode := .reg [⟨(some 39), none, .r (.mv (.tmp 5))⟩, ⟨(some 40), none, .r (.fad 33 (.tmp 2))⟩, ⟨(some 41), none, .r (.fad 7 (.tmp 40))⟩, ⟨(some 42), none, .r (.ld none (.tmp 41))⟩, ⟨(some 43), none, .r (.fad 33 (.tmp 3))⟩, ⟨(some 44), none, .r (.fad 7 (.tmp 43))⟩, ⟨(some 45), none, .r (.ld none (.tmp 44))⟩, ⟨(some 46), none, .e (.call 44 [(.tmp 39), (.const (.string ⟨#[99, 121, 99, 108, 101, 115]⟩)), (.const (.int .i64 0)), (.tmp 42), (.tmp 45)])⟩]
def C14_17 : ACode := .reg [⟨(some 47), none, .r (.mv (.tmp 5))⟩, ⟨(some 48), none, .r (.fad 33 (.tmp 2))⟩, ⟨(some 49), none, .r (.fad 8 (.tmp 48))⟩, ⟨(some 50), none, .r (.ld none (.tmp 49))⟩, ⟨(some 51), none, .r (.fad 33 (.tmp 3))⟩, ⟨(some 52), none, .r (.fad 8 (.tmp 51))⟩, ⟨(some 53), none, .r (.ld none (.tmp 52))⟩, ⟨(some 54), none, .e (.call 44 [(.tmp 47), (.const (.string ⟨#[105, 110, 115, 116, 114, 115]⟩)), (.const (.int .i64 0)), (.tmp 50), (.tmp 53)])⟩]
def C14_18 : ACode := .reg [⟨(some 55), none, .r (.mv (.tmp 5))⟩, ⟨(some 56), none, .r (.fad 42 (.tmp 2))⟩, ⟨(some 57), none, .r (.ld none (.tmp 56))⟩, ⟨(some 58), none, .r (.fad 42 (.tmp 3))⟩, ⟨(some 59), none, .r (.ld none (.tmp 58))⟩, ⟨(some 60), none, .e (.call 44 [(.tmp 55), (.const (.string ⟨#[116, 105, 99, 107]⟩)), (.const (.int .i64 0)), (.tmp 57), (.tmp 59)])⟩]
def C14_19 : ACode := .reg [⟨(some 61), none, .r (.mv (.tmp 5))⟩, ⟨(some 62), none, .r (.fad 43 (.tmp 2))⟩, ⟨(some 63), none, .r (.ld none (.tmp 62))⟩, ⟨(some 64), none, .r (.fad 43 (.tmp 3))⟩, ⟨(some 65), none, .r (.ld none (.tmp 64))⟩, ⟨(some 66), none, .e (.call 44 [(.tmp 61), (.const (.string ⟨#[114, 101, 116, 105, 114, 101, 100]⟩)), (.const (.int .i64 0)), (.tmp 63), (.tmp 65)])⟩]
def C14_20 : ACode := .reg [⟨(some 67), none, .r (.mv (.tmp 5))⟩, ⟨(some 68), none, .r (.fad 44 (.tmp 2))⟩, ⟨(some 69), none, .r (.ld none (.tmp 68))⟩, ⟨(some 70), none, .r (.fad 44 (.tmp 3))⟩, ⟨(some 71), none, .r (.ld none (.tmp 70))⟩, ⟨(some 72), none, .e (.call 45 [(.tmp 67), (.const (.string ⟨#[109, 101, 109, 111, 114, 121]⟩)), (.tmp 69), (.tmp 71)])⟩]
def C14_21 : ACode := .reg [⟨(some 73), none, .r (.mv (.tmp 5))⟩, ⟨(some 74), none, .r (.fad 45 (.tmp 2))⟩, ⟨(some 75), none, .r (.ld none (.tmp 74))⟩, ⟨(some 76), none, .r (.fad 45 (.tmp 3))⟩, ⟨(some 77), none, .r (.ld none (.tmp 76))⟩, ⟨(some 78), none, .e (.call 45 [(.tmp 73), (.const (.string ⟨#[119, 97, 105, 116, 115]⟩)), (.tmp 75), (.tmp 77)])⟩]
def C14_22 : ACode := .reg [⟨(some 79), none, .r (.mv (.tmp 5))⟩, ⟨(some 80), none, .r (.fad 46 (.tmp 2))⟩, ⟨(some 81), none, .r (.ld none (.tmp 80))⟩, ⟨(some 82), none, .r (.fad 46 (.tmp 3))⟩, ⟨(some 83), none, .r (.ld none (.tmp 82))⟩, ⟨(some 84), none, .e (.call 45 [(.tmp 79), (.const (.string ⟨#[111, 117, 116]⟩)), (.tmp 81), (.tmp 83)])⟩]
def C14_23 : ACode := .reg [⟨(some 85), none, .r (.mv (.tmp 5))⟩, ⟨(some 86), none, .r (.fad 47 (.tmp 2))⟩, ⟨(some 87), none, .r (.ld none (.tmp 86))⟩, ⟨(some 88), none, .r (.fad 47 (.tmp 3))⟩, ⟨(some 89), none, .r (.ld none (.tmp 88))⟩, ⟨(some 90), none, .e (.call 46 [(.tmp 85), (.const (.string ⟨#[111, 118, 101, 114]⟩)), (.tmp 87), (.tmp 89)])⟩]
def C14_24 : ACode := .reg [⟨(some 91), none, .r (.mv (.tmp 5))⟩, ⟨(some 92), none, .r (.fad 48 (.tmp 2))⟩, ⟨(some 93), none, .r (.ld none (.tmp 92))⟩, ⟨(some 94), none, .r (.conv .u64 (.tmp 93))⟩, ⟨(some 95), none, .r (.fad 48 (.tmp 3))⟩, ⟨(some 96), none, .r (.ld none (.tmp 95))⟩, ⟨(some 97), none, .r (.conv .u64 (.tmp 96))⟩, ⟨(some 98), none, .e (.call 44 [(.tmp 91), (.const (.string ⟨#[99, 97, 109, 101]⟩)), (.const (.int .i64 0)), (.tmp 94), (.tmp 97)])⟩]
def C14_25 : ACode := .reg [⟨(some 99), none, .r (.mv (.tmp 5))⟩, ⟨(some 100), none, .r (.fad 49 (.tmp 2))⟩, ⟨(some 101), none, .r (.fad 0 (.tmp 100))⟩, ⟨(some 102), none, .r (.ld none (.tmp 101))⟩, ⟨(some 103), none, .r (.fad 49 (.tmp 3))⟩, ⟨(some 104), none, .r (.fad 0 (.tmp 103))⟩, ⟨(some 105), none, .r (.ld none (.tmp 104))⟩, ⟨(some 106), none, .e (.call 44 [(.tmp 99), (.const (.string ⟨#[111, 102, 102, 115, 101, 116]⟩)), (.const (.int .i64 0)), (.tmp 102), (.tmp 105)])⟩]
def C14_26 : ACode := .reg [⟨(some 107), none, .r (.mv (.tmp 5))⟩, ⟨(some 108), none, .r (.fad 49 (.tmp 2))⟩, ⟨(some 109), none, .r (.fad 1 (.tmp 108))⟩, ⟨(some 110), none, .r (.ld none (.tmp 109))⟩, ⟨(some 111), none, .r (.fad 49 (.tmp 3))⟩, ⟨(some 112), none, .r (.fad 1 (.tmp 111))⟩, ⟨(some 113), none, .r (.ld none (.tmp 112))⟩, ⟨(some 114), none, .e (.call 44 [(.tmp 107), (.const (.string ⟨#[109, 97, 114, 107]⟩)), (.const (.int .i64 0)), (.tmp 110), (.tmp 113)])⟩]
def C14_27 : ACode := .reg [⟨(some 115), none, .r (.mv (.tmp 5))⟩, ⟨(some 116), none, .r (.fad 49 (.tmp 2))⟩, ⟨(some 117), none, .r (.fad 2 (.tmp 116))⟩, ⟨(some 118), none, .r (.ld none (.tmp 117))⟩, ⟨(some 119), none, .r (.fad 49 (.tmp 3))⟩, ⟨(some 120), none, .r (.fad 2 (.tmp 119))⟩, ⟨(some 121), none, .r (.ld none (.tmp 120))⟩, ⟨(some 122), none, .e (.call 46 [(.tmp 115), (.const (.string ⟨#[115, 111, 102, 116]⟩)), (.tmp 118), (.tmp 121)])⟩]
def C14_28 : ACode := .reg [⟨(some 123), none, .r (.mv (.tmp 5))⟩, ⟨(some 124), none, .r (.fad 52 (.tmp 2))⟩, ⟨(some 125), none, .r (.ld none (.tmp 124))⟩, ⟨(some 126), none, .r (.fad 52 (.tmp 3))⟩, ⟨(some 127), none, .r (.ld none (.tmp 126))⟩, ⟨(some 128), none, .e (.call 46 [(.tmp 123), (.const (.string ⟨#[111, 102, 102]⟩)), (.tmp 125), (.tmp 127)])⟩]
def C14_29 : ACode := .reg [⟨(some 129), none, .r (.mv (.tmp 5))⟩, ⟨(some 130), none, .r (.fad 53 (.tmp 2))⟩, ⟨(some 131), none, .r (.ld none (.tmp 130))⟩, ⟨(some 132), none, .r (.fad 53 (.tmp 3))⟩, ⟨(some 133), none, .r (.ld none (.tmp 132))⟩, ⟨(some 134), none, .e (.call 42 [(.tmp 129), (.const (.string ⟨#[99, 111, 100, 101]⟩)), (.const (.int .i64 0)), (.tmp 131), (.tmp 133)])⟩]
def C14_30 : ACode := .reg [⟨(some 135), none, .r (.fad 54 (.tmp 2))⟩, ⟨(some 136), none, .r (.ld none (.tmp 135))⟩, ⟨(some 137), none, .r (.fad 54 (.tmp 3))⟩, ⟨(some 138), none, .r (.ld none (.tmp 137))⟩, ⟨(some 139), none, .e (.call 19 [(.tmp 136), (.tmp 138)])⟩, ⟨(some 7), none, .e (.asg (.tmp 139))⟩]
def C14_31 : ACode := .reg [⟨(some 140), none, .r (.mv (.tmp 7))⟩, ⟨(some 141), none, .r (.bin .geq (.tmp 140) (.const (.int .i64 0)))⟩]
def C14_32 : ACode := .dreg [⟨(some 142), none, .r (.mv (.tmp 5))⟩, ⟨(some 143), none, .r (.mv (.tmp 5))⟩, ⟨(some 144), none, .r (.nck (.tmp 143))⟩, ⟨(some 145), none, .r (.ld none (.tmp 144))⟩, ⟨(some 146), none, .r (.mv (.tmp 7))⟩, ⟨(some 147), none, .r (.fad 54 (.tmp 2))⟩, ⟨(some 148), none, .r (.ld none (.tmp 147))⟩, ⟨(some 149), none, .r (.len (.tmp 148))⟩, ⟨(some 150), none, .r (.conv .u64 (.tmp 149))⟩, ⟨(some 151), none, .r (.fad 54 (.tmp 3))⟩, ⟨(some 152), none, .r (.ld none (.tmp 151))⟩, ⟨(some 153), none, .r (.len (.tmp 152))⟩, ⟨(some 154), none, .r (.conv .u64 (.tmp 153))⟩, ⟨(some 155), none, .r (.bld [.str ⟨#[]⟩, .int .i64 0, .int .u64 0, .int .u64 0] [(0, 1, (.const (.string ⟨#[101, 118, 101, 110, 116]⟩))), (1, 1, (.tmp 146)), (2, 1, (.tmp 150)), (3, 1, (.tmp 154))])⟩, ⟨(some 156), none, .e (.bsl 1 [.str ⟨#[]⟩, .int .i64 0, .int .u64 0, .int .u64 0] [(0, 4, (.tmp 155))])⟩, ⟨(some 157), none, .e (.app 4 40 (.tmp 145) (.tmp 156))⟩, ⟨(some 158), none, .r (.nck (.tmp 142))⟩, ⟨none, none, .e (.st 1 (.tmp 158) (.tmp 157))⟩] [[], [], [1], [2], [], [], [5], [6], [7], [], [9], [10], [11], [4, 8, 12], [13], [3, 14], [0, 0, 1, 2, 3, 4, 5, 6, 7, 8, 9, 10, 11, 12, 13, 14, 15], [16, 15, 15, 0, 1, 2, 3, 4, 5, 6, 7, 8, 9, 10, 11, 12, 13, 14, 15]] [(0, []), (1, []), (2, []), (3, []), (4, []), (5, []), (6, []), (7, []), (8, []), (9, []), (10, []), (11, []), (12, []), (13, []), (14, [0, 1, 2, 3]), (15, [0]), (16, []), (17, [])]
def C14_33 : ACode := .cond (.tmp 141) C14_32 .skip
def C14_34 : ACode := .seq [2, 3, 5, 7, 141] C14_31 C14_33
def C14_35 : ACode := .seq [2, 3, 5, 7] C14_30 C14_34
def C14_36 : ACode := .reg [⟨(some 159), none, .r (.mv (.tmp 5))⟩, ⟨(some 160), none, .r (.nck (.tmp 159))⟩, ⟨(some 161), none, .r (.ld none (.tmp 160))⟩, ⟨(some 4), none, .e (.asg (.tmp 161))⟩]
def C14_37 : ACode := .seq [4] C14_36 .ret
def C14_38 : ACode := .seq [5] C14_35 C14_37
def C14_39 : ACode := .seq [2, 3, 5] C14_29 C14_38
def C14_40 : ACode := .seq [2, 3, 5] C14_28 C14_39
def C14_41 : ACode := .seq [2, 3, 5] C14_27 C14_40
def C14_42 : ACode := .seq [2, 3, 5] C14_26 C14_41
def C14_43 : ACode := .seq [2, 3, 5] C14_25 C14_42
def C14_44 : ACode := .seq [2, 3, 5] C14_24 C14_43
def C14_45 : ACode := .seq [2, 3, 5] C14_23 C14_44
def C14_46 : ACode := .seq [2, 3, 5] C14_22 C14_45
def C14_47 : ACode := .seq [2, 3, 5] C14_21 C14_46
def C14_48 : ACode := .seq [2, 3, 5] C14_20 C14_47
def C14_49 : ACode := .seq [2, 3, 5] C14_19 C14_48
def C14_50 : ACode := .seq [2, 3, 5] C14_18 C14_49
def C14_51 : ACode := .seq [2, 3, 5] C14_17 C14_50
def C14_52 : ACode := .seq [2, 3, 5] C14_16 C14_51
def C14_53 : ACode := .seq [2, 3, 5] C14_15 C14_52
def C14_54 : ACode := .seq [2, 3, 5] C14_14 C14_53
def C14_55 : ACode := .seq [2, 3, 5] C14_2 C14_54
def C14_56 : ACode := .seq [2, 3, 5] C14_1 C14_55
def C14_57 : ACode := .seq [2, 3] C14_0 C14_56
def C14 : ACode := C14_57
def C14r : List RV := [.t 4]
theorem C14ok : trF Try.prog Try.f14 = some (C14.bare, C14r) := by kernel_rfl

/-- mimesis/mimesislaw40.same -/
def C15_0 : ACode := .reg [⟨(some 4), none, .e (.asg (.const (.bool false)))⟩]
def C15_1 : ACode := .reg [⟨(some 6), none, .r (.mv (.tmp 0))⟩, ⟨(some 7), none, .r (.len (.tmp 6))⟩, ⟨(some 8), none, .r (.mv (.tmp 1))⟩, ⟨(some 9), none, .r (.len (.tmp 8))⟩, ⟨(some 10), none, .r (.bin .neq (.tmp 7) (.tmp 9))⟩]
def C15_2 : ACode := .reg [⟨(some 4), none, .e (.asg (.const (.bool false)))⟩]
def C15_3 : ACode := .seq [4] C15_2 .ret
def C15_4 : ACode := .cond (.tmp 10) C15_3 .skip
def C15_5 : ACode := .seq [0, 1, 10] C15_1 C15_4
def C15_6 : ACode := .reg [⟨(some 5), none, .e (.asg (.const (.int .i64 0)))⟩]
def C15_7 : ACode := .reg [⟨(some 11), none, .r (.mv (.tmp 5))⟩, ⟨(some 12), none, .r (.mv (.tmp 0))⟩, ⟨(some 13), none, .r (.len (.tmp 12))⟩, ⟨(some 14), none, .r (.bin .lss (.tmp 11) (.tmp 13))⟩]
def C15_8 : ACode := .cond (.tmp 14) .skip (.exit 0)
def C15_9 : ACode := .seq [0, 1, 5, 14] C15_7 C15_8
def C15_10 : ACode := .dreg [⟨(some 17), none, .r (.mv (.tmp 0))⟩, ⟨(some 18), none, .r (.mv (.tmp 5))⟩, ⟨(some 19), none, .r (.ixs 4 (.tmp 17) (.tmp 18))⟩, ⟨(some 20), none, .r (.ld (some 4) (.tmp 19))⟩, ⟨(some 21), none, .r (.mv (.tmp 1))⟩, ⟨(some 22), none, .r (.mv (.tmp 5))⟩, ⟨(some 23), none, .r (.ixs 4 (.tmp 21) (.tmp 22))⟩, ⟨(some 24), none, .r (.ld (some 4) (.tmp 23))⟩, ⟨(some 25), none, .r (.eqa true [.s, .i, .i, .i] (.tmp 20) (.tmp 24))⟩] [[], [], [0, 1], [2], [], [], [4, 5], [6], [3, 7]] [(0, []), (1, []), (2, []), (3, []), (4, []), (5, []), (6, []), (7, []), (8, [])]
def C15_11 : ACode := .reg [⟨(some 4), none, .e (.asg (.const (.bool false)))⟩]
def C15_12 : ACode := .seq [4] C15_11 .ret
def C15_13 : ACode := .cond (.tmp 25) C15_12 .skip
def C15_14 : ACode := .seq [0, 1, 5, 25] C15_10 C15_13
def C15_15 : ACode := .block 1 C15_14
def C15_16 : ACode := .reg [⟨(some 15), none, .r (.mv (.tmp 5))⟩, ⟨(some 16), none, .r (.bin .add (.tmp 15) (.const (.int .i64 1)))⟩, ⟨(some 5), none, .e (.asg (.tmp 16))⟩]
def C15_17 : ACode := .seq [0, 1, 5] C15_15 C15_16
def C15_18 : ACode := .seq [0, 1, 5] C15_9 C15_17
def C15_19 : ACode := .loop C15_18
def C15_20 : ACode := .block 0 C15_19
def C15_21 : ACode := .seq [0, 1, 5] C15_6 C15_20
def C15_22 : ACode := .reg [⟨(some 4), none, .e (.asg (.const (.bool true)))⟩]
def C15_23 : ACode := .seq [4] C15_22 .ret
def C15_24 : ACode := .seq [] C15_21 C15_23
def C15_25 : ACode := .seq [0, 1] C15_5 C15_24
def C15_26 : ACode := .seq [0, 1] C15_0 C15_25
def C15 : ACode := C15_26
def C15r : List RV := [.t 4]
theorem C15ok : trF Try.prog Try.f15 = some (C15.bare, C15r) := by kernel_rfl

/-- mimesis/mimesisref40.States -/
def C16_0 : ACode := .reg [⟨(some 2), none, .e (.box (.tmp 0))⟩, ⟨(some 3), none, .e (.box (.tmp 1))⟩, ⟨(some 4), none, .e (.asg (.const (.slice none 0 0)))⟩]
def C16_1 : ACode := .reg [⟨(some 14), none, .r (.fad 0 (.tmp 2))⟩, ⟨(some 15), none, .r (.ld none (.tmp 14))⟩, ⟨(some 16), none, .r (.conv .u64 (.tmp 15))⟩, ⟨(some 17), none, .r (.fad 0 (.tmp 3))⟩, ⟨(some 18), none, .r (.ld none (.tmp 17))⟩, ⟨(some 19), none, .r (.conv .u64 (.tmp 18))⟩, ⟨(some 20), none, .r (.bld [.str ⟨#[]⟩, .int .i64 0, .int .u64 0, .int .u64 0] [(0, 1, (.const (.string ⟨#[112, 99]⟩))), (2, 1, (.tmp 16)), (3, 1, (.tmp 19))])⟩, ⟨(some 21), none, .e (.bsl 1 [.str ⟨#[]⟩, .int .i64 0, .int .u64 0, .int .u64 0] [(0, 4, (.tmp 20))])⟩, ⟨(some 5), none, .e (.asg (.tmp 21))⟩]
def C16_2 : ACode := .reg [⟨(some 6), none, .e (.asg (.const (.int .i64 1)))⟩]
def C16_3 : ACode := .reg [⟨(some 22), none, .r (.mv (.tmp 6))⟩, ⟨(some 23), none, .r (.bin .lss (.tmp 22) (.const (.int .i64 32)))⟩]
def C16_4 : ACode := .cond (.tmp 23) .skip (.exit 0)
def C16_5 : ACode := .seq [2, 3, 5, 6, 23] C16_3 C16_4
def C16_6 : ACode := .dreg [⟨(some 26), none, .r (.mv (.tmp 5))⟩, ⟨(some 27), none, .r (.mv (.tmp 6))⟩, ⟨(some 28), none, .r (.mv (.tmp 6))⟩, ⟨(some 29), none, .r (.fad 1 (.tmp 2))⟩, ⟨(some 30), none, .r (.ixa 32 1 (.tmp 29) (.tmp 28))⟩, ⟨(some 31), none, .r (.ld none (.tmp 30))⟩, ⟨(some 32), none, .r (.conv .u64 (.tmp 31))⟩, ⟨(some 33), none, .r (.mv (.tmp 6))⟩, ⟨(some 34), none, .r (.fad 1 (.tmp 3))⟩, ⟨(some 35), none, .r (.ixa 32 1 (.tmp 34) (.tmp 33))⟩, ⟨(some 36), none, .r (.ld none (.tmp 35))⟩, ⟨(some 37), none, .r (.conv .u64 (.tmp 36))⟩, ⟨(some 38), none, .r (.bld [.str ⟨#[]⟩, .int .i64 0, .int .u64 0, .int .u64 0] [(0, 1, (.const (.string ⟨#[114, 101, 103, 105, 115, 116, 101, 114]⟩))), (1, 1, (.tmp 27)), (2, 1, (.tmp 32)), (3, 1, (.tmp 37))])⟩, ⟨(some 39), none, .e (.bsl 1 [.str ⟨#[]⟩, .int .i64 0, .int .u64 0, .int .u64 0] [(0, 4, (.tmp 38))])⟩, ⟨(some 40), none, .e (.app 4 40 (.tmp 26) (.tmp 39))⟩, ⟨(some 5), none, .e (.asg (.tmp 40))⟩] [[], [], [], [], [3, 2], [4], [5], [], [], [8, 7], [9], [10], [1, 6, 11], [12], [0, 13], [14, 14, 0, 1, 2, 3, 4, 5, 6, 7, 8, 9, 10, 11, 12, 13, 14]] [(0, []), (1, []), (2, []), (3, []), (4, []), (5, []), (6, []), (7, []), (8, []), (9, []), (10, []), (11, []), (12, []), (13, [0]), (14, []), (15, [])]
def C16_7 : ACode := .block 1 C16_6
def C16_8 : ACode := .reg [⟨(some 24), none, .r (.mv (.tmp 6))⟩, ⟨(some 25), none, .r (.bin .add (.tmp 24) (.const (.int .i64 1)))⟩, ⟨(some 6), none, .e (.asg (.tmp 25))⟩]
def C16_9 : ACode := .seq [2, 3, 5, 6] C16_7 C16_8
def C16_10 : ACode := .seq [2, 3, 5, 6] C16_5 C16_9
def C16_11 : ACode := .loop C16_10
def C16_12 : ACode := .block 0 C16_11
def C16_13 : ACode := .seq [2, 3, 5, 6] C16_2 C16_12
def C16_14 : ACode := .reg [⟨(some 41), none, .r (.fad 33 (.tmp 2))⟩, ⟨(some 42), none, .r (.fad 0 (.tmp 41))⟩, ⟨(some 43), none, .r (.ld (some 7) (.tmp 42))⟩, ⟨(some 7), none, .e (.alc [.int .u32 0, .int .u32 0, .int .u32 0, .int .u32 0, .int .u32 0, .int .u32 0, .int .u32 0])⟩, ⟨none, none, .e (.st 7 (.tmp 7) (.tmp 43))⟩]
def C16_15 : ACode := .reg [⟨(some 44), none, .r (.fad 33 (.tmp 3))⟩, ⟨(some 45), none, .r (.fad 0 (.tmp 44))⟩, ⟨(some 46), none, .r (.ld (some 7) (.tmp 45))⟩, ⟨(some 8), none, .e (.alc [.int .u32 0, .int .u32 0, .int .u32 0, .int .u32 0, .int .u32 0, .int .u32 0, .int .u32 0])⟩, ⟨none, none, .e (.st 7 (.tmp 8) (.tmp 46))⟩]
def C16_16 : ACode := .reg [⟨(some 47), none, .e (.bsl 7 [.str ⟨#[]⟩, .str ⟨#[]⟩, .str ⟨#[]⟩, .str ⟨#[]⟩, .str ⟨#[]⟩, .str ⟨#[]⟩, .str ⟨#[]⟩] [(0, 1, (.const (.string ⟨#[115, 116, 97, 116, 117, 115]⟩))), (1, 1, (.const (.string ⟨#[105, 101]⟩))), (2, 1, (.const (.string ⟨#[116, 118, 101, 99]⟩))), (3, 1, (.const (.string ⟨#[115, 99, 114, 97, 116, 99, 104]⟩))), (4, 1, (.const (.string ⟨#[101, 112, 99]⟩))), (5, 1, (.const (.string ⟨#[99, 97, 117, 115, 101]⟩))), (6, 1, (.const (.string ⟨#[116, 118, 97, 108]⟩)))])⟩, ⟨(some 9), none, .e (.asg (.tmp 47))⟩]
def C16_17 : ACode := .reg [⟨(some 48), none, .r (.fad 0 (.tmp 7))⟩, ⟨(some 49), none, .r (.ld none (.tmp 48))⟩, ⟨(some 50), none, .r (.fad 1 (.tmp 7))⟩, ⟨(some 51), none, .r (.ld none (.tmp 50))⟩, ⟨(some 52), none, .r (.fad 2 (.tmp 7))⟩, ⟨(some 53), none, .r (.ld none (.tmp 52))⟩, ⟨(some 54), none, .r (.fad 3 (.tmp 7))⟩, ⟨(some 55), none, .r (.ld none (.tmp 54))⟩, ⟨(some 56), none, .r (.fad 4 (.tmp 7))⟩, ⟨(some 57), none, .r (.ld none (.tmp 56))⟩, ⟨(some 58), none, .r (.fad 5 (.tmp 7))⟩, ⟨(some 59), none, .r (.ld none (.tmp 58))⟩, ⟨(some 60), none, .r (.fad 6 (.tmp 7))⟩, ⟨(some 61), none, .r (.ld none (.tmp 60))⟩, ⟨(some 62), none, .e (.bsl 7 [.int .u32 0, .int .u32 0, .int .u32 0, .int .u32 0, .int .u32 0, .int .u32 0, .int .u32 0] [(0, 1, (.tmp 49)), (1, 1, (.tmp 51)), (2, 1, (.tmp 53)), (3, 1, (.tmp 55)), (4, 1, (.tmp 57)), (5, 1, (.tmp 59)), (6, 1, (.tmp 61))])⟩, ⟨(some 10), none, .e (.asg (.tmp 62))⟩]
def C16_18 : ACode := .reg [⟨(some 63), none, .r (.fad 0 (.tmp 8))⟩, ⟨(some 64), none, .r (.ld none (.tmp 63))⟩, ⟨(some 65), none, .r (.fad 1 (.tmp 8))⟩, ⟨(some 66), none, .r (.ld none (.tmp 65))⟩, ⟨(some 67), none, .r (.fad 2 (.tmp 8))⟩, ⟨(some 68), none, .r (.ld none (.tmp 67))⟩, ⟨(some 69), none, .r (.fad 3 (.tmp 8))⟩, ⟨(some 70), none, .r (.ld none (.tmp 69))⟩, ⟨(some 71), none, .r (.fad 4 (.tmp 8))⟩, ⟨(some 72), none, .r (.ld none (.tmp 71))⟩, ⟨(some 73), none, .r (.fad 5 (.tmp 8))⟩, ⟨(some 74), none, .r (.ld none (.tmp 73))⟩, ⟨(some 75), none, .r (.fad 6 (.tmp 8))⟩, ⟨(some 76), none, .r (.ld none (.tmp 75))⟩, ⟨(some 77), none, .e (.bsl 7 [.int .u32 0, .int .u32 0, .int .u32 0, .int .u32 0, .int .u32 0, .int .u32 0, .int .u32 0] [(0, 1, (.tmp 64)), (1, 1, (.tmp 66)), (2, 1, (.tmp 68)), (3, 1, (.tmp 70)), (4, 1, (.tmp 72)), (5, 1, (.tmp 74)), (6, 1, (.tmp 76))])⟩, ⟨(some 11), none, .e (.asg (.tmp 77))⟩]
def C16_19 : ACode := .reg [⟨(some 12), none, .e (.asg (.const (.int .i64 0)))⟩]
def C16_20 : ACode := .reg [⟨(some 78), none, .r (.mv (.tmp 12))⟩, ⟨(some 79), none, .r (.bin .lss (.tmp 78) (.const (.int .i64 7)))⟩]
def C16_21 : ACode := .cond (.tmp 79) .skip (.exit 2)
def C16_22 : ACode := .seq [2, 3, 5, 9, 10, 11, 12, 79] C16_20 C16_21
def C16_23 : ACode := .dreg [⟨(some 82), none, .r (.mv (.tmp 5))⟩, ⟨(some 83), none, .r (.mv (.tmp 9))⟩, ⟨(some 84), none, .r (.mv (.tmp 12))⟩, ⟨(some 85), none, .r (.ixs 1 (.tmp 83) (.tmp 84))⟩, ⟨(some 86), none, .r (.ld none (.tmp 85))⟩, ⟨(some 87), none, .r (.mv (.tmp 10))⟩, ⟨(some 88), none, .r (.mv (.tmp 12))⟩, ⟨(some 89), none, .r (.ixs 1 (.tmp 87) (.tmp 88))⟩, ⟨(some 90), none, .r (.ld none (.tmp 89))⟩, ⟨(some 91), none, .r (.conv .u64 (.tmp 90))⟩, ⟨(some 92), none, .r (.mv (.tmp 11))⟩, ⟨(some 93), none, .r (.mv (.tmp 12))⟩, ⟨(some 94), none, .r (.ixs 1 (.tmp 92) (.tmp 93))⟩, ⟨(some 95), none, .r (.ld none (.tmp 94))⟩, ⟨(some 96), none, .r (.conv .u64 (.tmp 95))⟩, ⟨(some 97), none, .r (.bld [.str ⟨#[]⟩, .int .i64 0, .int .u64 0, .int .u64 0] [(0, 1, (.tmp 86)), (2, 1, (.tmp 91)), (3, 1, (.tmp 96))])⟩, ⟨(some 98), none, .e (.bsl 1 [.str ⟨#[]⟩, .int .i64 0, .int .u64 0, .int .u64 0] [(0, 4, (.tmp 97))])⟩, ⟨(some 99), none, .e (.app 4 40 (.tmp 82) (.tmp 98))⟩, ⟨(some 5), none, .e (.asg (.tmp 99))⟩] [[], [], [], [1, 2], [3], [], [], [5, 6], [7], [8], [], [], [10, 11], [12], [13], [4, 9, 14], [15], [0, 16], [17, 17, 0, 1, 2, 3, 4, 5, 6, 7, 8, 9, 10, 11, 12, 13, 14, 15, 16, 17]] [(0, []), (1, []), (2, []), (3, []), (4, []), (5, []), (6, []), (7, []), (8, []), (9, []), (10, []), (11, []), (12, []), (13, []), (14, []), (15, []), (16, [0]), (17, []), (18, [])]
def C16_24 : ACode := .block 3 C16_23
def C16_25 : ACode := .reg [⟨(some 80), none, .r (.mv (.tmp 12))⟩, ⟨(some 81), none, .r (.bin .add (.tmp 80) (.const (.int .i64 1)))⟩, ⟨(some 12), none, .e (.asg (.tmp 81))⟩]
def C16_26 : ACode := .seq [2, 3, 5, 9, 10, 11, 12] C16_24 C16_25
def C16_27 : ACode := .seq [2, 3, 5, 9, 10, 11, 12] C16_22 C16_26
def C16_28 : ACode := .loop C16_27
def C16_29 : ACode := .block 2 C16_28
def C16_30 : ACode := .seq [2, 3, 5, 9, 10, 11, 12] C16_19 C16_29
def C16_31 : ACode := .reg [⟨(some 100), none, .r (.mv (.tmp 5))⟩, ⟨(some 101), none, .r (.fad 33 (.tmp 2))⟩, ⟨(some 102), none, .r (.fad 7 (.tmp 101))⟩, ⟨(some 103), none, .r (.ld none (.tmp 102))⟩, ⟨(some 104), none, .r (.fad 33 (.tmp 3))⟩, ⟨(some 105), none, .r (.fad 7 (.tmp 104))⟩, ⟨(some 106), none, .r (.ld none (.tmp 105))⟩, ⟨(some 107), none, .r (.bld [.str ⟨#[]⟩, .int .i64 0, .int .u64 0, .int .u64 0] [(0, 1, (.const (.string ⟨#[99, 121, 99, 108, 101, 115]⟩))), (2, 1, (.tmp 103)), (3, 1, (.tmp 106))])⟩, ⟨(some 108), none, .r (.fad 33 (.tmp 2))⟩, ⟨(some 109), none, .r (.fad 8 (.tmp 108))⟩, ⟨(some 110), none, .r (.ld none (.tmp 109))⟩, ⟨(some 111), none, .r (.fad 33 (.tmp 3))⟩, ⟨(some 112), none, .r (.fad 8 (.tmp 111))⟩, ⟨(some 113), none, .r (.ld none (.tmp 112))⟩, ⟨(some 114), none, .r (.bld [.str ⟨#[]⟩, .int .i64 0, .int .u64 0, .int .u64 0] [(0, 1, (.const (.string ⟨#[105, 110, 115, 116, 114, 115]⟩))), (2, 1, (.tmp 110)), (3, 1, (.tmp 113))])⟩, ⟨(some 115), none, .e (.bsl 2 [.str ⟨#[]⟩, .int .i64 0, .int .u64 0, .int .u64 0, .str ⟨#[]⟩, .int .i64 0, .int .u64 0, .int .u64 0] [(0, 4, (.tmp 107)), (4, 4, (.tmp 114))])⟩, ⟨(some 116), none, .e (.app 4 40 (.tmp 100) (.tmp 115))⟩, ⟨(some 5), none, .e (.asg (.tmp 116))⟩]
def C16_32 : ACode := .reg [⟨(some 117), none, .r (.mv (.tmp 5))⟩, ⟨(some 118), none, .r (.fad 42 (.tmp 2))⟩, ⟨(some 119), none, .r (.ld none (.tmp 118))⟩, ⟨(some 120), none, .r (.fad 42 (.tmp 3))⟩, ⟨(some 121), none, .r (.ld none (.tmp 120))⟩, ⟨(some 122), none, .r (.bld [.str ⟨#[]⟩, .int .i64 0, .int .u64 0, .int .u64 0] [(0, 1, (.const (.string ⟨#[116, 105, 99, 107]⟩))), (2, 1, (.tmp 119)), (3, 1, (.tmp 121))])⟩, ⟨(some 123), none, .r (.fad 43 (.tmp 2))⟩, ⟨(some 124), none, .r (.ld none (.tmp 123))⟩, ⟨(some 125), none, .r (.fad 43 (.tmp 3))⟩, ⟨(some 126), none, .r (.ld none (.tmp 125))⟩, ⟨(some 127), none, .r (.bld [.str ⟨#[]⟩, .int .i64 0, .int .u64 0, .int .u64 0] [(0, 1, (.const (.string ⟨#[114, 101, 116, 105, 114, 101, 100]⟩))), (2, 1, (.tmp 124)), (3, 1, (.tmp 126))])⟩, ⟨(some 128), none, .e (.bsl 2 [.str ⟨#[]⟩, .int .i64 0, .int .u64 0, .int .u64 0, .str ⟨#[]⟩, .int .i64 0, .int .u64 0, .int .u64 0] [(0, 4, (.tmp 122)), (4, 4, (.tmp 127))])⟩, ⟨(some 129), none, .e (.app 4 40 (.tmp 117) (.tmp 128))⟩, ⟨(some 5), none, .e (.asg (.tmp 129))⟩]
def C16_33 : ACode := .dreg [⟨(some 130), none, .r (.mv (.tmp 5))⟩, ⟨(some 131), none, .r (.fad 44 (.tmp 2))⟩, ⟨(some 132), none, .r (.fad 0 (.tmp 131))⟩, ⟨(some 133), none, .r (.ld none (.tmp 132))⟩, ⟨(some 134), none, .r (.fad 44 (.tmp 3))⟩, ⟨(some 135), none, .r (.fad 0 (.tmp 134))⟩, ⟨(some 136), none, .r (.ld none (.tmp 135))⟩, ⟨(some 137), none, .e (.call 47 [(.const (.string ⟨#[109, 101, 109, 111, 114, 121]⟩)), (.tmp 133), (.tmp 136)])⟩, ⟨(some 138), none, .r (.fad 44 (.tmp 2))⟩, ⟨(some 139), none, .r (.fad 1 (.tmp 138))⟩, ⟨(some 140), none, .r (.fad 2 (.tmp 139))⟩, ⟨(some 141), none, .r (.ld none (.tmp 140))⟩, ⟨(some 142), none, .r (.fad 44 (.tmp 3))⟩, ⟨(some 143), none, .r (.fad 1 (.tmp 142))⟩, ⟨(some 144), none, .r (.fad 2 (.tmp 143))⟩, ⟨(some 145), none, .r (.ld none (.tmp 144))⟩, ⟨(some 146), none, .e (.call 47 [(.const (.string ⟨#[119, 97, 105, 116, 115]⟩)), (.tmp 141), (.tmp 145)])⟩, ⟨(some 147), none, .r (.fad 44 (.tmp 2))⟩, ⟨(some 148), none, .r (.fad 1 (.tmp 147))⟩, ⟨(some 149), none, .r (.fad 4 (.tmp 148))⟩, ⟨(some 150), none, .r (.ld none (.tmp 149))⟩, ⟨(some 151), none, .r (.fad 44 (.tmp 3))⟩, ⟨(some 152), none, .r (.fad 1 (.tmp 151))⟩, ⟨(some 153), none, .r (.fad 4 (.tmp 152))⟩, ⟨(some 154), none, .r (.ld none (.tmp 153))⟩, ⟨(some 155), none, .e (.call 47 [(.const (.string ⟨#[111, 117, 116]⟩)), (.tmp 150), (.tmp 154)])⟩, ⟨(some 156), none, .e (.bsl 3 [.str ⟨#[]⟩, .int .i64 0, .int .u64 0, .int .u64 0, .str ⟨#[]⟩, .int .i64 0, .int .u64 0, .int .u64 0, .str ⟨#[]⟩, .int .i64 0, .int .u64 0, .int .u64 0] [(0, 4, (.tmp 137)), (4, 4, (.tmp 146)), (8, 4, (.tmp 155))])⟩, ⟨(some 157), none, .e (.app 4 40 (.tmp 130) (.tmp 156))⟩, ⟨(some 5), none, .e (.asg (.tmp 157))⟩] [[], [], [1], [2], [], [4], [5], [3, 6], [], [8], [9], [10], [], [12], [13], [14], [11, 15, 7], [], [17], [18], [19], [], [21], [22], [23], [20, 24, 16], [7, 16, 25], [0, 26, 25], [27, 27, 0, 1, 2, 3, 4, 5, 6, 7, 8, 9, 10, 11, 12, 13, 14, 15, 16, 17, 18, 19, 20, 21, 22, 23, 24, 25, 26, 27]] [(0, []), (1, []), (2, []), (3, []), (4, []), (5, []), (6, []), (8, []), (9, []), (10, []), (11, []), (12, []), (13, []), (14, []), (15, []), (17, []), (18, []), (19, []), (20, []), (21, []), (22, []), (23, []), (24, []), (7, [0, 8, 9, 10, 11, 12, 13, 14, 15, 17, 18, 19, 20, 21, 22, 23, 24]), (16, [0, 17, 18, 19, 20, 21, 22, 23, 24]), (25, [0]), (26, [0]), (27, []), (28, [])]
def C16_34 : ACode := .dreg [⟨(some 158), none, .r (.mv (.tmp 5))⟩, ⟨(some 159), none, .r (.fad 44 (.tmp 2))⟩, ⟨(some 160), none, .r (.fad 1 (.tmp 159))⟩, ⟨(some 161), none, .r (.fad 3 (.tmp 160))⟩, ⟨(some 162), none, .r (.ld none (.tmp 161))⟩, ⟨(some 163), none, .e (.call 48 [(.tmp 162)])⟩, ⟨(some 164), none, .r (.fad 44 (.tmp 3))⟩, ⟨(some 165), none, .r (.fad 1 (.tmp 164))⟩, ⟨(some 166), none, .r (.fad 3 (.tmp 165))⟩, ⟨(some 167), none, .r (.ld none (.tmp 166))⟩, ⟨(some 168), none, .e (.call 48 [(.tmp 167)])⟩, ⟨(some 169), none, .r (.bld [.str ⟨#[]⟩, .int .i64 0, .int .u64 0, .int .u64 0] [(0, 1, (.const (.string ⟨#[111, 118, 101, 114]⟩))), (2, 1, (.tmp 163)), (3, 1, (.tmp 168))])⟩, ⟨(some 170), none, .r (.fad 44 (.tmp 2))⟩, ⟨(some 171), none, .r (.fad 1 (.tmp 170))⟩, ⟨(some 172), none, .r (.fad 1 (.tmp 171))⟩, ⟨(some 173), none, .r (.ld none (.tmp 172))⟩, ⟨(some 174), none, .r (.conv .u64 (.tmp 173))⟩, ⟨(some 175), none, .r (.fad 44 (.tmp 3))⟩, ⟨(some 176), none, .r (.fad 1 (.tmp 175))⟩, ⟨(some 177), none, .r (.fad 1 (.tmp 176))⟩, ⟨(some 178), none, .r (.ld none (.tmp 177))⟩, ⟨(some 179), none, .r (.conv .u64 (.tmp 178))⟩, ⟨(some 180), none, .r (.bld [.str ⟨#[]⟩, .int .i64 0, .int .u64 0, .int .u64 0] [(0, 1, (.const (.string ⟨#[99, 97, 109, 101]⟩))), (2, 1, (.tmp 174)), (3, 1, (.tmp 179))])⟩, ⟨(some 181), none, .e (.bsl 2 [.str ⟨#[]⟩, .int .i64 0, .int .u64 0, .int .u64 0, .str ⟨#[]⟩, .int .i64 0, .int .u64 0, .int .u64 0] [(0, 4, (.tmp 169)), (4, 4, (.tmp 180))])⟩, ⟨(some 182), none, .e (.app 4 40 (.tmp 158) (.tmp 181))⟩, ⟨(some 5), none, .e (.asg (.tmp 182))⟩] [[], [], [1], [2], [3], [4], [], [6], [7], [8], [9, 5], [5, 10], [], [12], [13], [14], [15], [], [17], [18], [19], [20], [16, 21], [11, 22], [0, 23, 10], [24, 24, 0, 1, 2, 3, 4, 5, 6, 7, 8, 9, 10, 11, 12, 13, 14, 15, 16, 17, 18, 19, 20, 21, 22, 23, 24]] [(0, []), (1, []), (2, []), (3, []), (4, []), (6, []), (7, []), (8, []), (9, []), (12, []), (13, []), (14, []), (15, []), (16, []), (17, []), (18, []), (19, []), (20, []), (21, []), (22, []), (5, [0, 6, 7, 8, 9, 12, 13, 14, 15, 16, 17, 18, 19, 20, 21, 22]), (10, [0, 12, 13, 14, 15, 16, 17, 18, 19, 20, 21, 22]), (11, []), (23, [0]), (24, []), (25, [])]
def C16_35 : ACode := .dreg [⟨(some 183), none, .r (.mv (.tmp 5))⟩, ⟨(some 184), none, .r (.fad 44 (.tmp 2))⟩, ⟨(some 185), none, .r (.fad 6 (.tmp 184))⟩, ⟨(some 186), none, .r (.fad 0 (.tmp 185))⟩, ⟨(some 187), none, .r (.ld none (.tmp 186))⟩, ⟨(some 188), none, .r (.fad 44 (.tmp 3))⟩, ⟨(some 189), none, .r (.fad 6 (.tmp 188))⟩, ⟨(some 190), none, .r (.fad 0 (.tmp 189))⟩, ⟨(some 191), none, .r (.ld none (.tmp 190))⟩, ⟨(some 192), none, .r (.bld [.str ⟨#[]⟩, .int .i64 0, .int .u64 0, .int .u64 0] [(0, 1, (.const (.string ⟨#[111, 102, 102, 115, 101, 116]⟩))), (2, 1, (.tmp 187)), (3, 1, (.tmp 191))])⟩, ⟨(some 193), none, .r (.fad 44 (.tmp 2))⟩, ⟨(some 194), none, .r (.fad 6 (.tmp 193))⟩, ⟨(some 195), none, .r (.fad 1 (.tmp 194))⟩, ⟨(some 196), none, .r (.ld none (.tmp 195))⟩, ⟨(some 197), none, .r (.fad 44 (.tmp 3))⟩, ⟨(some 198), none, .r (.fad 6 (.tmp 197))⟩, ⟨(some 199), none, .r (.fad 1 (.tmp 198))⟩, ⟨(some 200), none, .r (.ld none (.tmp 199))⟩, ⟨(some 201), none, .r (.bld [.str ⟨#[]⟩, .int .i64 0, .int .u64 0, .int .u64 0] [(0, 1, (.const (.string ⟨#[109, 97, 114, 107]⟩))), (2, 1, (.tmp 196)), (3, 1, (.tmp 200))])⟩, ⟨(some 202), none, .r (.fad 44 (.tmp 2))⟩, ⟨(some 203), none, .r (.fad 6 (.tmp 202))⟩, ⟨(some 204), none, .r (.fad 2 (.tmp 203))⟩, ⟨(some 205), none, .r (.ld none (.tmp 204))⟩, ⟨(some 206), none, .e (.call 48 [(.tmp 205)])⟩, ⟨(some 207), none, .r (.fad 44 (.tmp 3))⟩, ⟨(some 208), none, .r (.fad 6 (.tmp 207))⟩, ⟨(some 209), none, .r (.fad 2 (.tmp 208))⟩, ⟨(some 210), none, .r (.ld none (.tmp 209))⟩, ⟨(some 211), none, .e (.call 48 [(.tmp 210)])⟩, ⟨(some 212), none, .r (.bld [.str ⟨#[]⟩, .int .i64 0, .int .u64 0, .int .u64 0] [(0, 1, (.const (.string ⟨#[115, 111, 102, 116]⟩))), (2, 1, (.tmp 206)), (3, 1, (.tmp 211))])⟩, ⟨(some 213), none, .e (.bsl 3 [.str ⟨#[]⟩, .int .i64 0, .int .u64 0, .int .u64 0, .str ⟨#[]⟩, .int .i64 0, .int .u64 0, .int .u64 0, .str ⟨#[]⟩, .int .i64 0, .int .u64 0, .int .u64 0] [(0, 4, (.tmp 192)), (4, 4, (.tmp 201)), (8, 4, (.tmp 212))])⟩, ⟨(some 214), none, .e (.app 4 40 (.tmp 183) (.tmp 213))⟩, ⟨(some 5), none, .e (.asg (.tmp 214))⟩] [[], [], [1], [2], [3], [], [5], [6], [7], [4, 8], [], [10], [11], [12], [], [14], [15], [16], [13, 17], [], [19], [20], [21], [22], [], [24], [25], [26], [27, 23], [23, 28], [9, 18, 29], [0, 30, 28], [31, 31, 0, 1, 2, 3, 4, 5, 6, 7, 8, 9, 10, 11, 12, 13, 14, 15, 16, 17, 18, 19, 20, 21, 22, 23, 24, 25, 26, 27, 28, 29, 30, 31]] [(0, []), (1, []), (2, []), (3, []), (4, []), (5, []), (6, []), (7, []), (8, []), (9, []), (10, []), (11, []), (12, []), (13, []), (14, []), (15, []), (16, []), (17, []), (18, []), (19, []), (20, []), (21, []), (22, []), (24, []), (25, []), (26, []), (27, []), (23, [0, 1, 2, 3, 4, 5, 6, 7, 8, 9, 10, 11, 12, 13, 14, 15, 16, 17, 18, 24, 25, 26, 27]), (28, [0, 1, 2, 3, 4, 5, 6, 7, 8, 9, 10, 11, 12, 13, 14, 15, 16, 17, 18]), (29, []), (30, [0]), (31, []), (32, [])]
def C16_36 : ACode := .dreg [⟨(some 215), none, .r (.mv (.tmp 5))⟩, ⟨(some 216), none, .r (.fad 44 (.tmp 2))⟩, ⟨(some 217), none, .r (.fad 9 (.tmp 216))⟩, ⟨(some 218), none, .r (.ld none (.tmp 217))⟩, ⟨(some 219), none, .e (.call 48 [(.tmp 218)])⟩, ⟨(some 220), none, .r (.fad 44 (.tmp 3))⟩, ⟨(some 221), none, .r (.fad 9 (.tmp 220))⟩, ⟨(some 222), none, .r (.ld none (.tmp 221))⟩, ⟨(some 223), none, .e (.call 48 [(.tmp 222)])⟩, ⟨(some 224), none, .r (.bld [.str ⟨#[]⟩, .int .i64 0, .int .u64 0, .int .u64 0] [(0, 1, (.const (.string ⟨#[111, 102, 102]⟩))), (2, 1, (.tmp 219)), (3, 1, (.tmp 223))])⟩, ⟨(some 225), none, .r (.fad 44 (.tmp 2))⟩, ⟨(some 226), none, .r (.fad 10 (.tmp 225))⟩, ⟨(some 227), none, .r (.ld none (.tmp 226))⟩, ⟨(some 228), none, .r (.conv .u64 (.tmp 227))⟩, ⟨(some 229), none, .r (.fad 44 (.tmp 3))⟩, ⟨(some 230), none, .r (.fad 10 (.tmp 229))⟩, ⟨(some 231), none, .r (.ld none (.tmp 230))⟩, ⟨(some 232), none, .r (.conv .u64 (.tmp 231))⟩, ⟨(some 233), none, .r (.bld [.str ⟨#[]⟩, .int .i64 0, .int .u64 0, .int .u64 0] [(0, 1, (.const (.string ⟨#[99, 111, 100, 101]⟩))), (2, 1, (.tmp 228)), (3, 1, (.tmp 232))])⟩, ⟨(some 234), none, .e (.bsl 2 [.str ⟨#[]⟩, .int .i64 0, .int .u64 0, .int .u64 0, .str ⟨#[]⟩, .int .i64 0, .int .u64 0, .int .u64 0] [(0, 4, (.tmp 224)), (4, 4, (.tmp 233))])⟩, ⟨(some 235), none, .e (.app 4 40 (.tmp 215) (.tmp 234))⟩, ⟨(some 5), none, .e (.asg (.tmp 235))⟩] [[], [], [1], [2], [3], [], [5], [6], [7, 4], [4, 8], [], [10], [11], [12], [], [14], [15], [16], [13, 17], [9, 18], [0, 19, 8], [20, 20, 0, 1, 2, 3, 4, 5, 6, 7, 8, 9, 10, 11, 12, 13, 14, 15, 16, 17, 18, 19, 20]] [(0, []), (1, []), (2, []), (3, []), (5, []), (6, []), (7, []), (10, []), (11, []), (12, []), (13, []), (14, []), (15, []), (16, []), (17, []), (18, []), (4, [0, 5, 6, 7, 10, 11, 12, 13, 14, 15, 16, 17, 18]), (8, [0, 10, 11, 12, 13, 14, 15, 16, 17, 18]), (9, []), (19, [0]), (20, []), (21, [])]
def C16_37 : ACode := .reg [⟨(some 236), none, .r (.mv (.tmp 5))⟩, ⟨(some 237), none, .e (.call 49 [(.tmp 236)])⟩, ⟨(some 5), none, .e (.asg (.tmp 237))⟩]
def C16_38 : ACode := .reg [⟨(some 238), none, .r (.fad 55 (.tmp 2))⟩, ⟨(some 239), none, .r (.ld none (.tmp 238))⟩, ⟨(some 240), none, .r (.fad 55 (.tmp 3))⟩, ⟨(some 241), none, .r (.ld none (.tmp 240))⟩, ⟨(some 242), none, .e (.call 20 [(.tmp 239), (.tmp 241)])⟩, ⟨(some 13), none, .e (.asg (.tmp 242))⟩]
def C16_39 : ACode := .reg [⟨(some 243), none, .r (.mv (.tmp 13))⟩, ⟨(some 244), none, .r (.bin .geq (.tmp 243) (.const (.int .i64 0)))⟩]
def C16_40 : ACode := .reg [⟨(some 245), none, .r (.mv (.tmp 5))⟩, ⟨(some 246), none, .r (.mv (.tmp 13))⟩, ⟨(some 247), none, .r (.fad 55 (.tmp 2))⟩, ⟨(some 248), none, .r (.ld none (.tmp 247))⟩, ⟨(some 249), none, .r (.len (.tmp 248))⟩, ⟨(some 250), none, .r (.conv .u64 (.tmp 249))⟩, ⟨(some 251), none, .r (.fad 55 (.tmp 3))⟩, ⟨(some 252), none, .r (.ld none (.tmp 251))⟩, ⟨(some 253), none, .r (.len (.tmp 252))⟩, ⟨(some 254), none, .r (.conv .u64 (.tmp 253))⟩, ⟨(some 255), none, .r (.bld [.str ⟨#[]⟩, .int .i64 0, .int .u64 0, .int .u64 0] [(0, 1, (.const (.string ⟨#[101, 118, 101, 110, 116]⟩))), (1, 1, (.tmp 246)), (2, 1, (.tmp 250)), (3, 1, (.tmp 254))])⟩, ⟨(some 256), none, .e (.bsl 1 [.str ⟨#[]⟩, .int .i64 0, .int .u64 0, .int .u64 0] [(0, 4, (.tmp 255))])⟩, ⟨(some 257), none, .e (.app 4 40 (.tmp 245) (.tmp 256))⟩, ⟨(some 5), none, .e (.asg (.tmp 257))⟩]
def C16_41 : ACode := .cond (.tmp 244) C16_40 .skip
def C16_42 : ACode := .seq [2, 3, 5, 13, 244] C16_39 C16_41
def C16_43 : ACode := .seq [2, 3, 5, 13] C16_38 C16_42
def C16_44 : ACode := .reg [⟨(some 258), none, .r (.mv (.tmp 5))⟩, ⟨(some 4), none, .e (.asg (.tmp 258))⟩]
def C16_45 : ACode := .seq [4] C16_44 .ret
def C16_46 : ACode := .seq [5] C16_43 C16_45
def C16_47 : ACode := .seq [2, 3, 5] C16_37 C16_46
def C16_48 : ACode := .seq [2, 3, 5] C16_36 C16_47
def C16_49 : ACode := .seq [2, 3, 5] C16_35 C16_48
def C16_50 : ACode := .seq [2, 3, 5] C16_34 C16_49
def C16_51 : ACode := .seq [2, 3, 5] C16_33 C16_50
def C16_52 : ACode := .seq [2, 3, 5] C16_32 C16_51
def C16_53 : ACode := .seq [2, 3, 5] C16_31 C16_52
def C16_54 : ACode := .seq [2, 3, 5] C16_30 C16_53
def C16_55 : ACode := .seq [2, 3, 5, 9, 10, 11] C16_18 C16_54
def C16_56 : ACode := .seq [2, 3, 5, 8, 9, 10] C16_17 C16_55
def C16_57 : ACode := .seq [2, 3, 5, 7, 8, 9] C16_16 C16_56
def C16_58 : ACode := .seq [2, 3, 5, 7, 8] C16_15 C16_57
def C16_59 : ACode := .seq [2, 3, 5, 7] C16_14 C16_58
def C16_60 : ACode := .seq [2, 3, 5] C16_13 C16_59
def C16_61 : ACode := .seq [2, 3, 5] C16_1 C16_60
def C16_62 : ACode := .seq [2, 3] C16_0 C16_61
def C16 : ACode := C16_62
def C16r : List RV := [.t 4]
theorem C16ok : trF Try.prog Try.f16 = some (C16.bare, C16r) := by kernel_rfl

/-- mimesis/mimesislaw18.Of -/
def C17_0 : ACode := .reg [⟨(some 1), none, .e (.box (.tmp 0))⟩, ⟨(some 2), none, .e (.alc [.int .u32 0, .int .u32 0, .int .u32 0, .int .u32 0, .int .u32 0, .int .u32 0, .int .u32 0, .int .u32 0, .int .u32 0, .int .u32 0, .int .u32 0, .int .u32 0, .int .u32 0, .int .u32 0, .int .u32 0, .int .u32 0, .int .u32 0, .int .u32 0, .int .u32 0, .int .u32 0, .int .u32 0, .int .u32 0, .int .u32 0, .int .u32 0, .int .u32 0, .int .u32 0, .int .u32 0, .int .u32 0, .int .u32 0, .int .u32 0, .int .u32 0, .int .u32 0, .int .u32 0, .int .u32 0, .int .u32 0, .int .u32 0, .int .u32 0, .int .u32 0, .int .u32 0, .int .u32 0, .int .u64 0, .int .u64 0, .int .u64 0, .int .u64 0, .nils, .nils, .int .i64 0, .nils, .bool false, .nils, .int .u64 0, .int .u64 0, .bool false, .bool false, .int .u32 0, .nils])⟩]
def C17_1 : ACode := .reg [⟨(some 4), none, .r (.fad 44 (.tmp 1))⟩, ⟨(some 5), none, .r (.ld none (.tmp 4))⟩, ⟨(some 6), none, .r (.fad 48 (.tmp 1))⟩, ⟨(some 7), none, .r (.ld none (.tmp 6))⟩, ⟨(some 8), none, .r (.fad 45 (.tmp 1))⟩, ⟨(some 9), none, .r (.ld none (.tmp 8))⟩, ⟨(some 10), none, .r (.fad 47 (.tmp 1))⟩, ⟨(some 11), none, .r (.ld none (.tmp 10))⟩, ⟨(some 12), none, .r (.fad 46 (.tmp 1))⟩, ⟨(some 13), none, .r (.ld none (.tmp 12))⟩, ⟨(some 14), none, .r (.bld [.nils, .int .i64 0, .nils, .bool false, .nils] [(1, 1, (.tmp 7)), (2, 1, (.tmp 9)), (3, 1, (.tmp 11)), (4, 1, (.tmp 13))])⟩, ⟨(some 15), none, .r (.fad 49 (.tmp 1))⟩, ⟨(some 16), none, .r (.fad 0 (.tmp 15))⟩, ⟨(some 17), none, .r (.ld none (.tmp 16))⟩, ⟨(some 18), none, .r (.fad 49 (.tmp 1))⟩, ⟨(some 19), none, .r (.fad 1 (.tmp 18))⟩, ⟨(some 20), none, .r (.ld none (.tmp 19))⟩, ⟨(some 21), none, .r (.fad 49 (.tmp 1))⟩, ⟨(some 22), none, .r (.fad 2 (.tmp 21))⟩, ⟨(some 23), none, .r (.ld none (.tmp 22))⟩, ⟨(some 24), none, .r (.bld [.int .u64 0, .int .u64 0, .bool false] [(0, 1, (.tmp 17)), (1, 1, (.tmp 20)), (2, 1, (.tmp 23))])⟩, ⟨(some 25), none, .r (.fad 52 (.tmp 1))⟩, ⟨(some 26), none, .r (.ld none (.tmp 25))⟩, ⟨(some 27), none, .r (.fad 53 (.tmp 1))⟩, ⟨(some 28), none, .r (.ld none (.tmp 27))⟩, ⟨(some 29), none, .r (.bld [.nils, .nils, .int .i64 0, .nils, .bool false, .nils, .int .u64 0, .int .u64 0, .bool false, .bool false, .int .u32 0] [(0, 1, (.tmp 5)), (1, 5, (.tmp 14)), (6, 3, (.tmp 24)), (9, 1, (.tmp 26)), (10, 1, (.tmp 28))])⟩, ⟨(some 3), none, .e (.alc [.nils, .nils, .int .i64 0, .nils, .bool false, .nils, .int .u64 0, .int .u64 0, .bool false, .bool false, .int .u32 0])⟩, ⟨none, none, .e (.st 11 (.tmp 3) (.tmp 29))⟩]
def C17_2 : ACode := .reg [⟨(some 30), none, .r (.fad 0 (.tmp 1))⟩, ⟨(some 31), none, .r (.ld none (.tmp 30))⟩, ⟨(some 32), none, .r (.fad 1 (.tmp 1))⟩, ⟨(some 33), none, .r (.ld (some 32) (.tmp 32))⟩, ⟨(some 34), none, .r (.fad 33 (.tmp 1))⟩, ⟨(some 35), none, .r (.fad 0 (.tmp 34))⟩, ⟨(some 36), none, .r (.ld (some 7) (.tmp 35))⟩, ⟨(some 37), none, .r (.fad 33 (.tmp 1))⟩, ⟨(some 38), none, .r (.fad 7 (.tmp 37))⟩, ⟨(some 39), none, .r (.ld none (.tmp 38))⟩, ⟨(some 40), none, .r (.fad 33 (.tmp 1))⟩, ⟨(some 41), none, .r (.fad 8 (.tmp 40))⟩, ⟨(some 42), none, .r (.ld none (.tmp 41))⟩, ⟨(some 43), none, .r (.bld [.int .u32 0, .int .u32 0, .int .u32 0, .int .u32 0, .int .u32 0, .int .u32 0, .int .u32 0, .int .u64 0, .int .u64 0] [(0, 7, (.tmp 36)), (7, 1, (.tmp 39)), (8, 1, (.tmp 42))])⟩, ⟨(some 44), none, .r (.fad 42 (.tmp 1))⟩, ⟨(some 45), none, .r (.ld none (.tmp 44))⟩, ⟨(some 46), none, .r (.fad 43 (.tmp 1))⟩, ⟨(some 47), none, .r (.ld none (.tmp 46))⟩, ⟨(some 48), none, .r (.ld (some 11) (.tmp 3))⟩, ⟨(some 49), none, .r (.fad 54 (.tmp 1))⟩, ⟨(some 50), none, .r (.ld none (.tmp 49))⟩, ⟨(some 51), none, .r (.bld [.int .u32 0, .int .u32 0, .int .u32 0, .int .u32 0, .int .u32 0, .int .u32 0, .int .u32 0, .int .u32 0, .int .u32 0, .int .u32 0, .int .u32 0, .int .u32 0, .int .u32 0, .int .u32 0, .int .u32 0, .int .u32 0, .int .u32 0, .int .u32 0, .int .u32 0, .int .u32 0, .int .u32 0, .int .u32 0, .int .u32 0, .int .u32 0, .int .u32 0, .int .u32 0, .int .u32 0, .int .u32 0, .int .u32 0, .int .u32 0, .int .u32 0, .int .u32 0, .int .u32 0, .int .u32 0, .int .u32 0, .int .u32 0, .int .u32 0, .int .u32 0, .int .u32 0, .int .u32 0, .int .u64 0, .int .u64 0, .int .u64 0, .int .u64 0, .nils, .nils, .int .i64 0, .nils, .bool false, .nils, .int .u64 0, .int .u64 0, .bool false, .bool false, .int .u32 0, .nils] [(0, 1, (.tmp 31)), (1, 32, (.tmp 33)), (33, 9, (.tmp 43)), (42, 1, (.tmp 45)), (43, 1, (.tmp 47)), (44, 11, (.tmp 48)), (55, 1, (.tmp 50))])⟩, ⟨none, none, .e (.st 56 (.tmp 2) (.tmp 51))⟩]
def C17_3 : ACode := .seq [2] C17_2 .ret
def C17_4 : ACode := .seq [1, 2, 3] C17_1 C17_3
def C17_5 : ACode := .seq [1, 2] C17_0 C17_4
def C17 : ACode := C17_5
def C17r : List RV := [.c 2 (some 56)]
theorem C17ok : trF Try.prog Try.f17 = some (C17.bare, C17r) := by kernel_rfl

/-- mimesis/mimesisref18.Same -/
def C18_0 : ACode := .reg [⟨(some 2), none, .e (.box (.tmp 0))⟩, ⟨(some 3), none, .e (.box (.tmp 1))⟩, ⟨(some 4), none, .e (.asg (.const (.bool false)))⟩]
def C18_1 : ACode := .reg [⟨(some 7), none, .r (.fad 0 (.tmp 2))⟩, ⟨(some 8), none, .r (.ld none (.tmp 7))⟩, ⟨(some 9), none, .r (.fad 0 (.tmp 3))⟩, ⟨(some 10), none, .r (.ld none (.tmp 9))⟩, ⟨(some 11), none, .r (.bin .neq (.tmp 8) (.tmp 10))⟩, ⟨(some 12), none, .r (.mv (.tmp 11))⟩, ⟨(some 13), (some (12, false)), .r (.fad 1 (.tmp 2))⟩, ⟨(some 14), (some (12, false)), .r (.ld (some 32) (.tmp 13))⟩, ⟨(some 15), (some (12, false)), .r (.fad 1 (.tmp 3))⟩, ⟨(some 16), (some (12, false)), .r (.ld (some 32) (.tmp 15))⟩, ⟨(some 17), (some (12, false)), .r (.eqa true [.i, .i, .i, .i, .i, .i, .i, .i, .i, .i, .i, .i, .i, .i, .i, .i, .i, .i, .i, .i, .i, .i, .i, .i, .i, .i, .i, .i, .i, .i, .i, .i] (.tmp 14) (.tmp 16))⟩, ⟨(some 18), none, .r (.pick (.tmp 12) (.const (.bool true)) (.tmp 17))⟩, ⟨(some 19), none, .r (.mv (.tmp 18))⟩, ⟨(some 20), (some (19, false)), .r (.fad 33 (.tmp 2))⟩, ⟨(some 21), (some (19, false)), .r (.ld (some 9) (.tmp 20))⟩, ⟨(some 22), (some (19, false)), .r (.fad 33 (.tmp 3))⟩, ⟨(some 23), (some (19, false)), .r (.ld (some 9) (.tmp 22))⟩, ⟨(some 24), (some (19, false)), .r (.eqa true [.i, .i, .i, .i, .i, .i, .i, .i, .i] (.tmp 21) (.tmp 23))⟩, ⟨(some 25), none, .r (.pick (.tmp 19) (.const (.bool true)) (.tmp 24))⟩, ⟨(some 26), none, .r (.mv (.tmp 25))⟩, ⟨(some 27), (some (26, false)), .r (.fad 42 (.tmp 2))⟩, ⟨(some 28), (some (26, false)), .r (.ld none (.tmp 27))⟩, ⟨(some 29), (some (26, false)), .r (.fad 42 (.tmp 3))⟩, ⟨(some 30), (some (26, false)), .r (.ld none (.tmp 29))⟩, ⟨(some 31), (some (26, false)), .r (.bin .neq (.tmp 28) (.tmp 30))⟩, ⟨(some 32), none, .r (.pick (.tmp 26) (.const (.bool true)) (.tmp 31))⟩, ⟨(some 33), none, .r (.mv (.tmp 32))⟩, ⟨(some 34), (some (33, false)), .r (.fad 43 (.tmp 2))⟩, ⟨(some 35), (some (33, false)), .r (.ld none (.tmp 34))⟩, ⟨(some 36), (some (33, false)), .r (.fad 43 (.tmp 3))⟩, ⟨(some 37), (some (33, false)), .r (.ld none (.tmp 36))⟩, ⟨(some 38), (some (33, false)), .r (.bin .neq (.tmp 35) (.tmp 37))⟩, ⟨(some 39), none, .r (.pick (.tmp 33) (.const (.bool true)) (.tmp 38))⟩, ⟨(some 40), none, .r (.mv (.tmp 39))⟩, ⟨(some 41), (some (40, false)), .r (.fad 44 (.tmp 2))⟩, ⟨(some 42), (some (40, false)), .r (.fad 6 (.tmp 41))⟩, ⟨(some 43), (some (40, false)), .r (.ld (some 3) (.tmp 42))⟩, ⟨(some 44), (some (40, false)), .r (.fad 44 (.tmp 3))⟩, ⟨(some 45), (some (40, false)), .r (.fad 6 (.tmp 44))⟩, ⟨(some 46), (some (40, false)), .r (.ld (some 3) (.tmp 45))⟩, ⟨(some 47), (some (40, false)), .r (.eqa true [.i, .i, .b] (.tmp 43) (.tmp 46))⟩, ⟨(some 48), none, .r (.pick (.tmp 40) (.const (.bool true)) (.tmp 47))⟩, ⟨(some 49), none, .r (.mv (.tmp 48))⟩, ⟨(some 50), (some (49, false)), .r (.fad 44 (.tmp 2))⟩, ⟨(some 51), (some (49, false)), .r (.fad 9 (.tmp 50))⟩, ⟨(some 52), (some (49, false)), .r (.ld none (.tmp 51))⟩, ⟨(some 53), (some (49, false)), .r (.fad 44 (.tmp 3))⟩, ⟨(some 54), (some (49, false)), .r (.fad 9 (.tmp 53))⟩, ⟨(some 55), (some (49, false)), .r (.ld none (.tmp 54))⟩, ⟨(some 56), (some (49, false)), .r (.eqb true (.tmp 52) (.tmp 55))⟩, ⟨(some 57), none, .r (.pick (.tmp 49) (.const (.bool true)) (.tmp 56))⟩, ⟨(some 58), none, .r (.mv (.tmp 57))⟩, ⟨(some 59), (some (58, false)), .r (.fad 44 (.tmp 2))⟩, ⟨(some 60), (some (58, false)), .r (.fad 10 (.tmp 59))⟩, ⟨(some 61), (some (58, false)), .r (.ld none (.tmp 60))⟩, ⟨(some 62), (some (58, false)), .r (.fad 44 (.tmp 3))⟩, ⟨(some 63), (some (58, false)), .r (.fad 10 (.tmp 62))⟩, ⟨(some 64), (some (58, false)), .r (.ld none (.tmp 63))⟩, ⟨(some 65), (some (58, false)), .r (.bin .neq (.tmp 61) (.tmp 64))⟩, ⟨(some 66), none, .r (.pick (.tmp 58) (.const (.bool true)) (.tmp 65))⟩]
def C18_2 : ACode := .reg [⟨(some 4), none, .e (.asg (.const (.bool false)))⟩]
def C18_3 : ACode := .seq [4] C18_2 .ret
def C18_4 : ACode := .cond (.tmp 66) C18_3 .skip
def C18_5 : ACode := .seq [2, 3, 66] C18_1 C18_4
def C18_6 : ACode := .reg [⟨(some 67), none, .r (.fad 44 (.tmp 2))⟩, ⟨(some 68), none, .r (.fad 1 (.tmp 67))⟩, ⟨(some 69), none, .r (.ld (some 5) (.tmp 68))⟩, ⟨(some 5), none, .e (.alc [.nils, .int .i64 0, .nils, .bool false, .nils])⟩, ⟨none, none, .e (.st 5 (.tmp 5) (.tmp 69))⟩]
def C18_7 : ACode := .reg [⟨(some 70), none, .r (.fad 44 (.tmp 3))⟩, ⟨(some 71), none, .r (.fad 1 (.tmp 70))⟩, ⟨(some 72), none, .r (.ld (some 5) (.tmp 71))⟩, ⟨(some 6), none, .e (.alc [.nils, .int .i64 0, .nils, .bool false, .nils])⟩, ⟨none, none, .e (.st 5 (.tmp 6) (.tmp 72))⟩]
def C18_8 : ACode := .reg [⟨(some 73), none, .r (.fad 44 (.tmp 2))⟩, ⟨(some 74), none, .r (.fad 0 (.tmp 73))⟩, ⟨(some 75), none, .r (.ld none (.tmp 74))⟩, ⟨(some 76), none, .r (.fad 44 (.tmp 3))⟩, ⟨(some 77), none, .r (.fad 0 (.tmp 76))⟩, ⟨(some 78), none, .r (.ld none (.tmp 77))⟩, ⟨(some 79), none, .e (.call 28 [(.tmp 75), (.tmp 78)])⟩, ⟨(some 80), none, .r (.mv (.tmp 79))⟩, ⟨(some 81), (some (80, true)), .r (.fad 2 (.tmp 5))⟩, ⟨(some 82), (some (80, true)), .r (.ld none (.tmp 81))⟩, ⟨(some 83), (some (80, true)), .r (.fad 2 (.tmp 6))⟩, ⟨(some 84), (some (80, true)), .r (.ld none (.tmp 83))⟩, ⟨(some 85), (some (80, true)), .e (.call 28 [(.tmp 82), (.tmp 84)])⟩, ⟨(some 86), none, .r (.pick (.tmp 80) (.tmp 85) (.const (.bool false)))⟩, ⟨(some 87), none, .r (.mv (.tmp 86))⟩, ⟨(some 88), (some (87, true)), .r (.fad 4 (.tmp 5))⟩, ⟨(some 89), (some (87, true)), .r (.ld none (.tmp 88))⟩, ⟨(some 90), (some (87, true)), .r (.fad 4 (.tmp 6))⟩, ⟨(some 91), (some (87, true)), .r (.ld none (.tmp 90))⟩, ⟨(some 92), (some (87, true)), .e (.call 28 [(.tmp 89), (.tmp 91)])⟩, ⟨(some 93), none, .r (.pick (.tmp 87) (.tmp 92) (.const (.bool false)))⟩, ⟨(some 94), none, .r (.mv (.tmp 93))⟩, ⟨(some 95), (some (94, true)), .r (.fad 3 (.tmp 5))⟩, ⟨(some 96), (some (94, true)), .r (.ld none (.tmp 95))⟩, ⟨(some 97), (some (94, true)), .r (.fad 3 (.tmp 6))⟩, ⟨(some 98), (some (94, true)), .r (.ld none (.tmp 97))⟩, ⟨(some 99), (some (94, true)), .r (.eqb false (.tmp 96) (.tmp 98))⟩, ⟨(some 100), none, .r (.pick (.tmp 94) (.tmp 99) (.const (.bool false)))⟩, ⟨(some 101), none, .r (.mv (.tmp 100))⟩, ⟨(some 102), (some (101, true)), .r (.fad 1 (.tmp 5))⟩, ⟨(some 103), (some (101, true)), .r (.ld none (.tmp 102))⟩, ⟨(some 104), (some (101, true)), .r (.fad 1 (.tmp 6))⟩, ⟨(some 105), (some (101, true)), .r (.ld none (.tmp 104))⟩, ⟨(some 106), (some (101, true)), .r (.bin .eql (.tmp 103) (.tmp 105))⟩, ⟨(some 107), none, .r (.pick (.tmp 101) (.tmp 106) (.const (.bool false)))⟩, ⟨(some 108), none, .r (.mv (.tmp 107))⟩, ⟨(some 109), (some (108, true)), .r (.fad 55 (.tmp 2))⟩, ⟨(some 110), (some (108, true)), .r (.ld none (.tmp 109))⟩, ⟨(some 111), (some (108, true)), .r (.fad 55 (.tmp 3))⟩, ⟨(some 112), (some (108, true)), .r (.ld none (.tmp 111))⟩, ⟨(some 113), (some (108, true)), .e (.call 26 [(.tmp 110), (.tmp 112)])⟩, ⟨(some 114), none, .r (.pick (.tmp 108) (.tmp 113) (.const (.bool false)))⟩, ⟨(some 4), none, .e (.asg (.tmp 114))⟩]
def C18_9 : ACode := .seq [4] C18_8 .ret
def C18_10 : ACode := .seq [2, 3, 5, 6] C18_7 C18_9
def C18_11 : ACode := .seq [2, 3, 5] C18_6 C18_10
def C18_12 : ACode := .seq [2, 3] C18_5 C18_11
def C18_13 : ACode := .seq [2, 3] C18_0 C18_12
def C18 : ACode := C18_13
def C18r : List RV := [.t 4]
theorem C18ok : trF Try.prog Try.f18 = some (C18.bare, C18r) := by kernel_rfl

/-- mimesis/compare.Events -/
def C19_0 : ACode := .reg [⟨(some 4), none, .e (.asg (.const (.int .i64 0)))⟩]
def C19_1 : ACode := .reg [⟨(some 6), none, .r (.mv (.tmp 0))⟩, ⟨(some 7), none, .r (.len (.tmp 6))⟩, ⟨(some 8), none, .r (.mv (.tmp 1))⟩, ⟨(some 9), none, .r (.len (.tmp 8))⟩, ⟨(some 10), none, .r (.mm false (.tmp 7) (.tmp 9))⟩, ⟨(some 11), none, .r (.mv (.const (.int .i64 0)))⟩]
def C19_2 : ACode := .reg [⟨(some 12), none, .r (.bin .lss (.tmp 11) (.tmp 10))⟩]
def C19_3 : ACode := .cond (.tmp 12) .skip (.exit 0)
def C19_4 : ACode := .reg [⟨(some 13), none, .r (.mv (.tmp 11))⟩, ⟨(some 5), none, .e (.asg (.tmp 13))⟩]
def C19_5 : ACode := .dreg [⟨(some 14), none, .r (.mv (.tmp 0))⟩, ⟨(some 15), none, .r (.mv (.tmp 5))⟩, ⟨(some 16), none, .r (.ixs 45 (.tmp 14) (.tmp 15))⟩, ⟨(some 17), none, .r (.ld (some 45) (.tmp 16))⟩, ⟨(some 18), none, .r (.mv (.tmp 1))⟩, ⟨(some 19), none, .r (.mv (.tmp 5))⟩, ⟨(some 20), none, .r (.ixs 45 (.tmp 18) (.tmp 19))⟩, ⟨(some 21), none, .r (.ld (some 45) (.tmp 20))⟩, ⟨(some 22), none, .r (.eqa true [.i, .i, .i, .i, .i, .i, .i, .i, .i, .i, .i, .i, .i, .i, .i, .i, .i, .i, .i, .i, .i, .i, .i, .i, .i, .i, .i, .i, .i, .i, .i, .i, .i, .i, .i, .i, .i, .i, .i, .i, .i, .i, .i, .i, .i] (.tmp 17) (.tmp 21))⟩] [[], [], [0, 1], [2], [], [], [4, 5], [6], [3, 7]] [(0, []), (1, []), (2, []), (3, []), (4, []), (5, []), (6, []), (7, []), (8, [])]
def C19_6 : ACode := .reg [⟨(some 23), none, .r (.mv (.tmp 5))⟩, ⟨(some 4), none, .e (.asg (.tmp 23))⟩]
def C19_7 : ACode := .seq [4] C19_6 .ret
def C19_8 : ACode := .cond (.tmp 22) C19_7 .skip
def C19_9 : ACode := .seq [0, 1, 5, 10, 11, 22] C19_5 C19_8
def C19_10 : ACode := .seq [0, 1, 5, 10, 11] C19_4 C19_9
def C19_11 : ACode := .block 1 C19_10
def C19_12 : ACode := .reg [⟨(some 24), none, .r (.bin .add (.tmp 11) (.const (.int .i64 1)))⟩, ⟨(some 11), none, .r (.mv (.tmp 24))⟩]
def C19_13 : ACode := .seq [0, 1, 10, 11] C19_11 C19_12
def C19_14 : ACode := .seq [0, 1, 10, 11] C19_3 C19_13
def C19_15 : ACode := .seq [0, 1, 10, 11, 12] C19_2 C19_14
def C19_16 : ACode := .loop C19_15
def C19_17 : ACode := .block 0 C19_16
def C19_18 : ACode := .seq [0, 1, 10, 11] C19_1 C19_17
def C19_19 : ACode := .reg [⟨(some 25), none, .r (.mv (.tmp 0))⟩, ⟨(some 26), none, .r (.len (.tmp 25))⟩, ⟨(some 27), none, .r (.mv (.tmp 1))⟩, ⟨(some 28), none, .r (.len (.tmp 27))⟩, ⟨(some 29), none, .r (.bin .eql (.tmp 26) (.tmp 28))⟩]
def C19_20 : ACode := .reg [⟨(some 4), none, .e (.asg (.const (.int .i64 (-1))))⟩]
def C19_21 : ACode := .seq [4] C19_20 .ret
def C19_22 : ACode := .cond (.tmp 29) C19_21 .skip
def C19_23 : ACode := .seq [0, 1, 29] C19_19 C19_22
def C19_24 : ACode := .reg [⟨(some 30), none, .r (.mv (.tmp 0))⟩, ⟨(some 31), none, .r (.len (.tmp 30))⟩, ⟨(some 32), none, .r (.mv (.tmp 1))⟩, ⟨(some 33), none, .r (.len (.tmp 32))⟩, ⟨(some 34), none, .r (.mm false (.tmp 31) (.tmp 33))⟩, ⟨(some 4), none, .e (.asg (.tmp 34))⟩]
def C19_25 : ACode := .seq [4] C19_24 .ret
def C19_26 : ACode := .seq [0, 1] C19_23 C19_25
def C19_27 : ACode := .seq [0, 1] C19_18 C19_26
def C19_28 : ACode := .seq [0, 1] C19_0 C19_27
def C19 : ACode := C19_28
def C19r : List RV := [.t 4]
theorem C19ok : trF Try.prog Try.f19 = some (C19.bare, C19r) := by kernel_rfl

/-- mimesis/mimesisref40.Events -/
def C20_0 : ACode := .reg [⟨(some 4), none, .e (.asg (.const (.int .i64 0)))⟩]
def C20_1 : ACode := .reg [⟨(some 5), none, .e (.asg (.const (.int .i64 0)))⟩]
def C20_2 : ACode := .reg [⟨(some 6), none, .r (.mv (.tmp 5))⟩, ⟨(some 7), none, .r (.mv (.tmp 0))⟩, ⟨(some 8), none, .r (.len (.tmp 7))⟩, ⟨(some 9), none, .r (.bin .lss (.tmp 6) (.tmp 8))⟩, ⟨(some 10), none, .r (.mv (.tmp 9))⟩, ⟨(some 11), (some (10, true)), .r (.mv (.tmp 5))⟩, ⟨(some 12), (some (10, true)), .r (.mv (.tmp 1))⟩, ⟨(some 13), (some (10, true)), .r (.len (.tmp 12))⟩, ⟨(some 14), (some (10, true)), .r (.bin .lss (.tmp 11) (.tmp 13))⟩, ⟨(some 15), none, .r (.pick (.tmp 10) (.tmp 14) (.const (.bool false)))⟩]
def C20_3 : ACode := .cond (.tmp 15) .skip (.exit 0)
def C20_4 : ACode := .seq [0, 1, 5, 15] C20_2 C20_3
def C20_5 : ACode := .dreg [⟨(some 18), none, .r (.mv (.tmp 0))⟩, ⟨(some 19), none, .r (.mv (.tmp 5))⟩, ⟨(some 20), none, .r (.ixs 45 (.tmp 18) (.tmp 19))⟩, ⟨(some 21), none, .r (.ld (some 45) (.tmp 20))⟩, ⟨(some 22), none, .r (.mv (.tmp 1))⟩, ⟨(some 23), none, .r (.mv (.tmp 5))⟩, ⟨(some 24), none, .r (.ixs 45 (.tmp 22) (.tmp 23))⟩, ⟨(some 25), none, .r (.ld (some 45) (.tmp 24))⟩, ⟨(some 26), none, .r (.eqa true [.i, .i, .i, .i, .i, .i, .i, .i, .i, .i, .i, .i, .i, .i, .i, .i, .i, .i, .i, .i, .i, .i, .i, .i, .i, .i, .i, .i, .i, .i, .i, .i, .i, .i, .i, .i, .i, .i, .i, .i, .i, .i, .i, .i, .i] (.tmp 21) (.tmp 25))⟩] [[], [], [0, 1], [2], [], [], [4, 5], [6], [3, 7]] [(0, []), (1, []), (2, []), (3, []), (4, []), (5, []), (6, []), (7, []), (8, [])]
def C20_6 : ACode := .reg [⟨(some 27), none, .r (.mv (.tmp 5))⟩, ⟨(some 4), none, .e (.asg (.tmp 27))⟩]
def C20_7 : ACode := .seq [4] C20_6 .ret
def C20_8 : ACode := .cond (.tmp 26) C20_7 .skip
def C20_9 : ACode := .seq [0, 1, 5, 26] C20_5 C20_8
def C20_10 : ACode := .block 1 C20_9
def C20_11 : ACode := .reg [⟨(some 16), none, .r (.mv (.tmp 5))⟩, ⟨(some 17), none, .r (.bin .add (.tmp 16) (.const (.int .i64 1)))⟩, ⟨(some 5), none, .e (.asg (.tmp 17))⟩]
def C20_12 : ACode := .seq [0, 1, 5] C20_10 C20_11
def C20_13 : ACode := .seq [0, 1, 5] C20_4 C20_12
def C20_14 : ACode := .loop C20_13
def C20_15 : ACode := .block 0 C20_14
def C20_16 : ACode := .seq [0, 1, 5] C20_1 C20_15
def C20_17 : ACode := .reg [⟨(some 28), none, .r (.mv (.tmp 0))⟩, ⟨(some 29), none, .r (.len (.tmp 28))⟩, ⟨(some 30), none, .r (.mv (.tmp 1))⟩, ⟨(some 31), none, .r (.len (.tmp 30))⟩, ⟨(some 32), none, .r (.bin .eql (.tmp 29) (.tmp 31))⟩]
def C20_18 : ACode := .reg [⟨(some 4), none, .e (.asg (.const (.int .i64 (-1))))⟩]
def C20_19 : ACode := .seq [4] C20_18 .ret
def C20_20 : ACode := .cond (.tmp 32) C20_19 .skip
def C20_21 : ACode := .seq [0, 1, 32] C20_17 C20_20
def C20_22 : ACode := .reg [⟨(some 33), none, .r (.mv (.tmp 0))⟩, ⟨(some 34), none, .r (.len (.tmp 33))⟩, ⟨(some 35), none, .r (.mv (.tmp 1))⟩, ⟨(some 36), none, .r (.len (.tmp 35))⟩, ⟨(some 37), none, .r (.mm false (.tmp 34) (.tmp 36))⟩, ⟨(some 4), none, .e (.asg (.tmp 37))⟩]
def C20_23 : ACode := .seq [4] C20_22 .ret
def C20_24 : ACode := .seq [0, 1] C20_21 C20_23
def C20_25 : ACode := .seq [0, 1] C20_16 C20_24
def C20_26 : ACode := .seq [0, 1] C20_0 C20_25
def C20 : ACode := C20_26
def C20r : List RV := [.t 4]
theorem C20ok : trF Try.prog Try.f20 = some (C20.bare, C20r) := by kernel_rfl

/-- mimesis/compare.Text -/
def C21_0 : ACode := .reg [⟨(some 2), none, .e (.asg (.const (.string ⟨#[]⟩)))⟩]
def C21_1 : ACode := .reg [⟨(some 3), none, .e (.alc [.str ⟨#[]⟩])⟩, ⟨none, none, .e (.st 1 (.tmp 3) (.const (.string ⟨#[]⟩)))⟩]
def C21_2 : ACode := .reg [⟨(some 7), none, .r (.mkf 50 [] [(.tmp 3)])⟩, ⟨(some 4), none, .e (.asg (.tmp 7))⟩]
def C21_3 : ACode := .reg [⟨(some 8), none, .r (.mv (.tmp 0))⟩, ⟨(some 9), none, .r (.len (.tmp 8))⟩, ⟨(some 10), none, .r (.mv (.const (.int .i64 0)))⟩]
def C21_4 : ACode := .reg [⟨(some 11), none, .r (.bin .lss (.tmp 10) (.tmp 9))⟩]
def C21_5 : ACode := .cond (.tmp 11) .skip (.exit 0)
def C21_6 : ACode := .reg [⟨(some 12), none, .r (.ixs 4 (.tmp 8) (.tmp 10))⟩, ⟨(some 13), none, .r (.ld (some 4) (.tmp 12))⟩, ⟨(some 6), none, .e (.alc [.str ⟨#[]⟩, .int .i64 0, .int .u64 0, .int .u64 0])⟩, ⟨none, none, .e (.st 4 (.tmp 6) (.tmp 13))⟩]
def C21_7 : ACode := .reg [⟨(some 14), none, .r (.mv (.tmp 4))⟩, ⟨(some 15), none, .r (.ld (some 4) (.tmp 6))⟩, ⟨(some 16), none, .e (.callv (.tmp 14) [(.tmp 15)])⟩]
def C21_8 : ACode := .seq [3, 4, 6, 8, 9, 10] C21_6 C21_7
def C21_9 : ACode := .block 1 C21_8
def C21_10 : ACode := .reg [⟨(some 17), none, .r (.bin .add (.tmp 10) (.const (.int .i64 1)))⟩, ⟨(some 10), none, .r (.mv (.tmp 17))⟩]
def C21_11 : ACode := .seq [3, 4, 8, 9, 10] C21_9 C21_10
def C21_12 : ACode := .seq [3, 4, 8, 9, 10] C21_5 C21_11
def C21_13 : ACode := .seq [3, 4, 8, 9, 10, 11] C21_4 C21_12
def C21_14 : ACode := .loop C21_13
def C21_15 : ACode := .block 0 C21_14
def C21_16 : ACode := .seq [3, 4, 8, 9, 10] C21_3 C21_15
def C21_17 : ACode := .reg [⟨(some 18), none, .r (.ld none (.tmp 3))⟩, ⟨(some 2), none, .e (.asg (.tmp 18))⟩]
def C21_18 : ACode := .seq [2] C21_17 .ret
def C21_19 : ACode := .seq [3] C21_16 C21_18
def C21_20 : ACode := .seq [0, 3, 4] C21_2 C21_19
def C21_21 : ACode := .seq [0, 3] C21_1 C21_20
def C21_22 : ACode := .seq [0] C21_0 C21_21
def C21 : ACode := C21_22
def C21r : List RV := [.t 2]
theorem C21ok : trF Try.prog Try.f21 = some (C21.bare, C21r) := by kernel_rfl

/-- mimesis/mimesisref40.Text -/
def C22_0 : ACode := .reg [⟨(some 2), none, .e (.asg (.const (.string ⟨#[]⟩)))⟩]
def C22_1 : ACode := .reg [⟨(some 3), none, .e (.asg (.const (.string ⟨#[]⟩)))⟩]
def C22_2 : ACode := .reg [⟨(some 4), none, .e (.asg (.const (.int .i64 0)))⟩]
def C22_3 : ACode := .reg [⟨(some 5), none, .r (.mv (.tmp 4))⟩, ⟨(some 6), none, .r (.mv (.tmp 0))⟩, ⟨(some 7), none, .r (.len (.tmp 6))⟩, ⟨(some 8), none, .r (.bin .lss (.tmp 5) (.tmp 7))⟩]
def C22_4 : ACode := .cond (.tmp 8) .skip (.exit 0)
def C22_5 : ACode := .seq [0, 3, 4, 8] C22_3 C22_4
def C22_6 : ACode := .dreg [⟨(some 11), none, .r (.mv (.tmp 3))⟩, ⟨(some 12), none, .r (.mv (.tmp 0))⟩, ⟨(some 13), none, .r (.mv (.tmp 4))⟩, ⟨(some 14), none, .r (.ixs 4 (.tmp 12) (.tmp 13))⟩, ⟨(some 15), none, .r (.fad 0 (.tmp 14))⟩, ⟨(some 16), none, .r (.ld none (.tmp 15))⟩, ⟨(some 17), none, .r (.bin .add (.tmp 11) (.tmp 16))⟩, ⟨(some 18), none, .r (.bin .add (.tmp 17) (.const (.string ⟨#[32]⟩)))⟩, ⟨(some 19), none, .r (.mv (.tmp 0))⟩, ⟨(some 20), none, .r (.mv (.tmp 4))⟩, ⟨(some 21), none, .r (.ixs 4 (.tmp 19) (.tmp 20))⟩, ⟨(some 22), none, .r (.fad 1 (.tmp 21))⟩, ⟨(some 23), none, .r (.ld none (.tmp 22))⟩, ⟨(some 24), none, .r (.conv .u64 (.tmp 23))⟩, ⟨(some 25), none, .e (.call 52 [(.tmp 24)])⟩, ⟨(some 26), none, .r (.bin .add (.tmp 18) (.tmp 25))⟩, ⟨(some 27), none, .r (.bin .add (.tmp 26) (.const (.string ⟨#[32]⟩)))⟩, ⟨(some 28), none, .r (.mv (.tmp 0))⟩, ⟨(some 29), none, .r (.mv (.tmp 4))⟩, ⟨(some 30), none, .r (.ixs 4 (.tmp 28) (.tmp 29))⟩, ⟨(some 31), none, .r (.fad 2 (.tmp 30))⟩, ⟨(some 32), none, .r (.ld none (.tmp 31))⟩, ⟨(some 33), none, .e (.call 52 [(.tmp 32)])⟩, ⟨(some 34), none, .r (.bin .add (.tmp 27) (.tmp 33))⟩, ⟨(some 35), none, .r (.bin .add (.tmp 34) (.const (.string ⟨#[32]⟩)))⟩, ⟨(some 36), none, .r (.mv (.tmp 0))⟩, ⟨(some 37), none, .r (.mv (.tmp 4))⟩, ⟨(some 38), none, .r (.ixs 4 (.tmp 36) (.tmp 37))⟩, ⟨(some 39), none, .r (.fad 3 (.tmp 38))⟩, ⟨(some 40), none, .r (.ld none (.tmp 39))⟩, ⟨(some 41), none, .e (.call 52 [(.tmp 40)])⟩, ⟨(some 42), none, .r (.bin .add (.tmp 35) (.tmp 41))⟩, ⟨(some 43), none, .r (.bin .add (.tmp 42) (.const (.string ⟨#[10]⟩)))⟩, ⟨(some 3), none, .e (.asg (.tmp 43))⟩] [[], [], [], [1, 2], [3], [4], [0, 5], [6], [], [], [8, 9], [10], [11], [12], [13], [7, 14], [15], [], [], [17, 18], [19], [20], [21, 14], [16, 22], [23], [], [], [25, 26], [27], [28], [29, 22], [24, 30], [31], [32, 30, 0, 1, 2, 3, 4, 5, 6, 7, 8, 9, 10, 11, 12, 13, 14, 15, 16, 17, 18, 19, 20, 21, 22, 23, 24, 25, 26, 27, 28, 29, 30, 31, 32]] [(0, []), (1, []), (2, []), (3, []), (4, []), (5, []), (6, []), (7, []), (8, []), (9, []), (10, []), (11, []), (12, []), (13, []), (17, []), (18, []), (19, []), (20, []), (21, []), (25, []), (26, []), (27, []), (28, []), (29, []), (14, [0, 1, 2, 3, 4, 5, 6, 7, 17, 18, 19, 20, 21, 25, 26, 27, 28, 29]), (15, []), (16, []), (22, [0, 1, 2, 3, 4, 5, 6, 7, 25, 26, 27, 28, 29, 15, 16]), (23, []), (24, []), (30, [0, 1, 2, 3, 4, 5, 6, 7, 15, 16, 23, 24]), (31, []), (32, []), (33, [])]
def C22_7 : ACode := .block 1 C22_6
def C22_8 : ACode := .reg [⟨(some 9), none, .r (.mv (.tmp 4))⟩, ⟨(some 10), none, .r (.bin .add (.tmp 9) (.const (.int .i64 1)))⟩, ⟨(some 4), none, .e (.asg (.tmp 10))⟩]
def C22_9 : ACode := .seq [0, 3, 4] C22_7 C22_8
def C22_10 : ACode := .seq [0, 3, 4] C22_5 C22_9
def C22_11 : ACode := .loop C22_10
def C22_12 : ACode := .block 0 C22_11
def C22_13 : ACode := .seq [0, 3, 4] C22_2 C22_12
def C22_14 : ACode := .reg [⟨(some 44), none, .r (.mv (.tmp 3))⟩, ⟨(some 2), none, .e (.asg (.tmp 44))⟩]
def C22_15 : ACode := .seq [2] C22_14 .ret
def C22_16 : ACode := .seq [3] C22_13 C22_15
def C22_17 : ACode := .seq [0, 3] C22_1 C22_16
def C22_18 : ACode := .seq [0] C22_0 C22_17
def C22 : ACode := C22_18
def C22r : List RV := [.t 2]
theorem C22ok : trF Try.prog Try.f22 = some (C22.bare, C22r) := by kernel_rfl

/-- mimesis/mimesisref18.SameEvents -/
def C26_0 : ACode := .reg [⟨(some 4), none, .e (.asg (.const (.bool false)))⟩]
def C26_1 : ACode := .reg [⟨(some 6), none, .r (.mv (.tmp 0))⟩, ⟨(some 7), none, .r (.len (.tmp 6))⟩, ⟨(some 8), none, .r (.mv (.tmp 1))⟩, ⟨(some 9), none, .r (.len (.tmp 8))⟩, ⟨(some 10), none, .r (.bin .neq (.tmp 7) (.tmp 9))⟩]
def C26_2 : ACode := .reg [⟨(some 4), none, .e (.asg (.const (.bool false)))⟩]
def C26_3 : ACode := .seq [4] C26_2 .ret
def C26_4 : ACode := .cond (.tmp 10) C26_3 .skip
def C26_5 : ACode := .seq [0, 1, 10] C26_1 C26_4
def C26_6 : ACode := .reg [⟨(some 5), none, .e (.asg (.const (.int .i64 0)))⟩]
def C26_7 : ACode := .reg [⟨(some 11), none, .r (.mv (.tmp 5))⟩, ⟨(some 12), none, .r (.mv (.tmp 0))⟩, ⟨(some 13), none, .r (.len (.tmp 12))⟩, ⟨(some 14), none, .r (.bin .lss (.tmp 11) (.tmp 13))⟩]
def C26_8 : ACode := .cond (.tmp 14) .skip (.exit 0)
def C26_9 : ACode := .seq [0, 1, 5, 14] C26_7 C26_8
def C26_10 : ACode := .dreg [⟨(some 17), none, .r (.mv (.tmp 0))⟩, ⟨(some 18), none, .r (.mv (.tmp 5))⟩, ⟨(some 19), none, .r (.ixs 45 (.tmp 17) (.tmp 18))⟩, ⟨(some 20), none, .r (.ld (some 45) (.tmp 19))⟩, ⟨(some 21), none, .r (.mv (.tmp 1))⟩, ⟨(some 22), none, .r (.mv (.tmp 5))⟩, ⟨(some 23), none, .r (.ixs 45 (.tmp 21) (.tmp 22))⟩, ⟨(some 24), none, .r (.ld (some 45) (.tmp 23))⟩, ⟨(some 25), none, .r (.eqa true [.i, .i, .i, .i, .i, .i, .i, .i, .i, .i, .i, .i, .i, .i, .i, .i, .i, .i, .i, .i, .i, .i, .i, .i, .i, .i, .i, .i, .i, .i, .i, .i, .i, .i, .i, .i, .i, .i, .i, .i, .i, .i, .i, .i, .i] (.tmp 20) (.tmp 24))⟩] [[], [], [0, 1], [2], [], [], [4, 5], [6], [3, 7]] [(0, []), (1, []), (2, []), (3, []), (4, []), (5, []), (6, []), (7, []), (8, [])]
def C26_11 : ACode := .reg [⟨(some 4), none, .e (.asg (.const (.bool false)))⟩]
def C26_12 : ACode := .seq [4] C26_11 .ret
def C26_13 : ACode := .cond (.tmp 25) C26_12 .skip
def C26_14 : ACode := .seq [0, 1, 5, 25] C26_10 C26_13
def C26_15 : ACode := .block 1 C26_14
def C26_16 : ACode := .reg [⟨(some 15), none, .r (.mv (.tmp 5))⟩, ⟨(some 16), none, .r (.bin .add (.tmp 15) (.const (.int .i64 1)))⟩, ⟨(some 5), none, .e (.asg (.tmp 16))⟩]
def C26_17 : ACode := .seq [0, 1, 5] C26_15 C26_16
def C26_18 : ACode := .seq [0, 1, 5] C26_9 C26_17
def C26_19 : ACode := .loop C26_18
def C26_20 : ACode := .block 0 C26_19
def C26_21 : ACode := .seq [0, 1, 5] C26_6 C26_20
def C26_22 : ACode := .reg [⟨(some 4), none, .e (.asg (.const (.bool true)))⟩]
def C26_23 : ACode := .seq [4] C26_22 .ret
def C26_24 : ACode := .seq [] C26_21 C26_23
def C26_25 : ACode := .seq [0, 1] C26_5 C26_24
def C26_26 : ACode := .seq [0, 1] C26_0 C26_25
def C26 : ACode := C26_26
def C26r : List RV := [.t 4]
theorem C26ok : trF Try.prog Try.f26 = some (C26.bare, C26r) := by kernel_rfl

/-- mimesis/mimesisref01.SameBytes -/
def C28_0 : ACode := .reg [⟨(some 4), none, .e (.asg (.const (.bool false)))⟩]
def C28_1 : ACode := .reg [⟨(some 6), none, .r (.mv (.tmp 0))⟩, ⟨(some 7), none, .r (.len (.tmp 6))⟩, ⟨(some 8), none, .r (.mv (.tmp 1))⟩, ⟨(some 9), none, .r (.len (.tmp 8))⟩, ⟨(some 10), none, .r (.bin .neq (.tmp 7) (.tmp 9))⟩]
def C28_2 : ACode := .reg [⟨(some 4), none, .e (.asg (.const (.bool false)))⟩]
def C28_3 : ACode := .seq [4] C28_2 .ret
def C28_4 : ACode := .cond (.tmp 10) C28_3 .skip
def C28_5 : ACode := .seq [0, 1, 10] C28_1 C28_4
def C28_6 : ACode := .reg [⟨(some 5), none, .e (.asg (.const (.int .i64 0)))⟩]
def C28_7 : ACode := .reg [⟨(some 11), none, .r (.mv (.tmp 5))⟩, ⟨(some 12), none, .r (.mv (.tmp 0))⟩, ⟨(some 13), none, .r (.len (.tmp 12))⟩, ⟨(some 14), none, .r (.bin .lss (.tmp 11) (.tmp 13))⟩]
def C28_8 : ACode := .cond (.tmp 14) .skip (.exit 0)
def C28_9 : ACode := .seq [0, 1, 5, 14] C28_7 C28_8
def C28_10 : ACode := .dreg [⟨(some 17), none, .r (.mv (.tmp 0))⟩, ⟨(some 18), none, .r (.mv (.tmp 5))⟩, ⟨(some 19), none, .r (.ixs 1 (.tmp 17) (.tmp 18))⟩, ⟨(some 20), none, .r (.ld none (.tmp 19))⟩, ⟨(some 21), none, .r (.mv (.tmp 1))⟩, ⟨(some 22), none, .r (.mv (.tmp 5))⟩, ⟨(some 23), none, .r (.ixs 1 (.tmp 21) (.tmp 22))⟩, ⟨(some 24), none, .r (.ld none (.tmp 23))⟩, ⟨(some 25), none, .r (.bin .neq (.tmp 20) (.tmp 24))⟩] [[], [], [0, 1], [2], [], [], [4, 5], [6], [3, 7]] [(0, []), (1, []), (2, []), (3, []), (4, []), (5, []), (6, []), (7, []), (8, [])]
def C28_11 : ACode := .reg [⟨(some 4), none, .e (.asg (.const (.bool false)))⟩]
def C28_12 : ACode := .seq [4] C28_11 .ret
def C28_13 : ACode := .cond (.tmp 25) C28_12 .skip
def C28_14 : ACode := .seq [0, 1, 5, 25] C28_10 C28_13
def C28_15 : ACode := .block 1 C28_14
def C28_16 : ACode := .reg [⟨(some 15), none, .r (.mv (.tmp 5))⟩, ⟨(some 16), none, .r (.bin .add (.tmp 15) (.const (.int .i64 1)))⟩, ⟨(some 5), none, .e (.asg (.tmp 16))⟩]
def C28_17 : ACode := .seq [0, 1, 5] C28_15 C28_16
def C28_18 : ACode := .seq [0, 1, 5] C28_9 C28_17
def C28_19 : ACode := .loop C28_18
def C28_20 : ACode := .block 0 C28_19
def C28_21 : ACode := .seq [0, 1, 5] C28_6 C28_20
def C28_22 : ACode := .reg [⟨(some 4), none, .e (.asg (.const (.bool true)))⟩]
def C28_23 : ACode := .seq [4] C28_22 .ret
def C28_24 : ACode := .seq [] C28_21 C28_23
def C28_25 : ACode := .seq [0, 1] C28_5 C28_24
def C28_26 : ACode := .seq [0, 1] C28_0 C28_25
def C28 : ACode := C28_26
def C28r : List RV := [.t 4]
theorem C28ok : trF Try.prog Try.f28 = some (C28.bare, C28r) := by kernel_rfl

/-- (*mimesis/compare.list).word -/
def C42_0 : ACode := .reg [⟨(some 10), none, .r (.mv (.tmp 0))⟩, ⟨(some 11), none, .r (.mv (.tmp 1))⟩, ⟨(some 12), none, .r (.mv (.tmp 2))⟩, ⟨(some 13), none, .r (.mv (.tmp 3))⟩, ⟨(some 14), none, .r (.conv .u64 (.tmp 13))⟩, ⟨(some 15), none, .r (.mv (.tmp 4))⟩, ⟨(some 16), none, .r (.conv .u64 (.tmp 15))⟩, ⟨(some 17), none, .e (.call 44 [(.tmp 10), (.tmp 11), (.tmp 12), (.tmp 14), (.tmp 16)])⟩]
def C42 : ACode := C42_0
def C42r : List RV := []
theorem C42ok : trF Try.prog Try.f42 = some (C42.bare, C42r) := by kernel_rfl

/-- (*mimesis/compare.list).kept -/
def C43_0 : ACode := .reg [⟨(some 4), none, .e (.box (.tmp 1))⟩, ⟨(some 5), none, .e (.box (.tmp 2))⟩]
def C43_1 : ACode := .reg [⟨(some 6), none, .r (.mv (.tmp 0))⟩, ⟨(some 7), none, .r (.fad 0 (.tmp 4))⟩, ⟨(some 8), none, .r (.ld none (.tmp 7))⟩, ⟨(some 9), none, .r (.fad 0 (.tmp 5))⟩, ⟨(some 10), none, .r (.ld none (.tmp 9))⟩, ⟨(some 11), none, .e (.call 42 [(.tmp 6), (.const (.string ⟨#[115, 116, 97, 116, 117, 115]⟩)), (.const (.int .i64 0)), (.tmp 8), (.tmp 10)])⟩]
def C43_2 : ACode := .reg [⟨(some 12), none, .r (.mv (.tmp 0))⟩, ⟨(some 13), none, .r (.fad 1 (.tmp 4))⟩, ⟨(some 14), none, .r (.ld none (.tmp 13))⟩, ⟨(some 15), none, .r (.fad 1 (.tmp 5))⟩, ⟨(some 16), none, .r (.ld none (.tmp 15))⟩, ⟨(some 17), none, .e (.call 42 [(.tmp 12), (.const (.string ⟨#[105, 101]⟩)), (.const (.int .i64 0)), (.tmp 14), (.tmp 16)])⟩]
def C43_3 : ACode := .reg [⟨(some 18), none, .r (.mv (.tmp 0))⟩, ⟨(some 19), none, .r (.fad 2 (.tmp 4))⟩, ⟨(some 20), none, .r (.ld none (.tmp 19))⟩, ⟨(some 21), none, .r (.fad 2 (.tmp 5))⟩, ⟨(some 22), none, .r (.ld none (.tmp 21))⟩, ⟨(some 23), none, .e (.call 42 [(.tmp 18), (.const (.string ⟨#[116, 118, 101, 99]⟩)), (.const (.int .i64 0)), (.tmp 20), (.tmp 22)])⟩]
def C43_4 : ACode := .reg [⟨(some 24), none, .r (.mv (.tmp 0))⟩, ⟨(some 25), none, .r (.fad 3 (.tmp 4))⟩, ⟨(some 26), none, .r (.ld none (.tmp 25))⟩, ⟨(some 27), none, .r (.fad 3 (.tmp 5))⟩, ⟨(some 28), none, .r (.ld none (.tmp 27))⟩, ⟨(some 29), none, .e (.call 42 [(.tmp 24), (.const (.string ⟨#[115, 99, 114, 97, 116, 99, 104]⟩)), (.const (.int .i64 0)), (.tmp 26), (.tmp 28)])⟩]
def C43_5 : ACode := .reg [⟨(some 30), none, .r (.mv (.tmp 0))⟩, ⟨(some 31), none, .r (.fad 4 (.tmp 4))⟩, ⟨(some 32), none, .r (.ld none (.tmp 31))⟩, ⟨(some 33), none, .r (.fad 4 (.tmp 5))⟩, ⟨(some 34), none, .r (.ld none (.tmp 33))⟩, ⟨(some 35), none, .e (.call 42 [(.tmp 30), (.const (.string ⟨#[101, 112, 99]⟩)), (.const (.int .i64 0)), (.tmp 32), (.tmp 34)])⟩]
def C43_6 : ACode := .reg [⟨(some 36), none, .r (.mv (.tmp 0))⟩, ⟨(some 37), none, .r (.fad 5 (.tmp 4))⟩, ⟨(some 38), none, .r (.ld none (.tmp 37))⟩, ⟨(some 39), none, .r (.fad 5 (.tmp 5))⟩, ⟨(some 40), none, .r (.ld none (.tmp 39))⟩, ⟨(some 41), none, .e (.call 42 [(.tmp 36), (.const (.string ⟨#[99, 97, 117, 115, 101]⟩)), (.const (.int .i64 0)), (.tmp 38), (.tmp 40)])⟩]
def C43_7 : ACode := .reg [⟨(some 42), none, .r (.mv (.tmp 0))⟩, ⟨(some 43), none, .r (.fad 6 (.tmp 4))⟩, ⟨(some 44), none, .r (.ld none (.tmp 43))⟩, ⟨(some 45), none, .r (.fad 6 (.tmp 5))⟩, ⟨(some 46), none, .r (.ld none (.tmp 45))⟩, ⟨(some 47), none, .e (.call 42 [(.tmp 42), (.const (.string ⟨#[116, 118, 97, 108]⟩)), (.const (.int .i64 0)), (.tmp 44), (.tmp 46)])⟩]
def C43_8 : ACode := .seq [0, 4, 5] C43_6 C43_7
def C43_9 : ACode := .seq [0, 4, 5] C43_5 C43_8
def C43_10 : ACode := .seq [0, 4, 5] C43_4 C43_9
def C43_11 : ACode := .seq [0, 4, 5] C43_3 C43_10
def C43_12 : ACode := .seq [0, 4, 5] C43_2 C43_11
def C43_13 : ACode := .seq [0, 4, 5] C43_1 C43_12
def C43_14 : ACode := .seq [0, 4, 5] C43_0 C43_13
def C43 : ACode := C43_14
def C43r : List RV := []
theorem C43ok : trF Try.prog Try.f43 = some (C43.bare, C43r) := by kernel_rfl

/-- (*mimesis/compare.list).put -/
def C44_0 : ACode := .reg [⟨(some 10), none, .r (.mv (.tmp 3))⟩, ⟨(some 11), none, .r (.mv (.tmp 4))⟩, ⟨(some 12), none, .r (.bin .neq (.tmp 10) (.tmp 11))⟩]
def C44_1 : ACode := .reg [⟨(some 13), none, .r (.mv (.tmp 0))⟩, ⟨(some 14), none, .r (.mv (.tmp 0))⟩, ⟨(some 15), none, .r (.nck (.tmp 14))⟩, ⟨(some 16), none, .r (.ld none (.tmp 15))⟩, ⟨(some 17), none, .r (.mv (.tmp 1))⟩, ⟨(some 18), none, .r (.mv (.tmp 2))⟩, ⟨(some 19), none, .r (.mv (.tmp 3))⟩, ⟨(some 20), none, .r (.mv (.tmp 4))⟩, ⟨(some 21), none, .r (.bld [.str ⟨#[]⟩, .int .i64 0, .int .u64 0, .int .u64 0] [(0, 1, (.tmp 17)), (1, 1, (.tmp 18)), (2, 1, (.tmp 19)), (3, 1, (.tmp 20))])⟩, ⟨(some 22), none, .e (.bsl 1 [.str ⟨#[]⟩, .int .i64 0, .int .u64 0, .int .u64 0] [(0, 4, (.tmp 21))])⟩, ⟨(some 23), none, .e (.app 4 40 (.tmp 16) (.tmp 22))⟩, ⟨(some 24), none, .r (.nck (.tmp 13))⟩, ⟨none, none, .e (.st 1 (.tmp 24) (.tmp 23))⟩]
def C44_2 : ACode := .cond (.tmp 12) C44_1 .skip
def C44_3 : ACode := .seq [0, 1, 2, 3, 4, 12] C44_0 C44_2
def C44 : ACode := C44_3
def C44r : List RV := []
theorem C44ok : trF Try.prog Try.f44 = some (C44.bare, C44r) := by kernel_rfl

/-- (*mimesis/compare.list).bytes -/
def C45_0 : ACode := .reg [⟨(some 11), none, .r (.mv (.tmp 2))⟩, ⟨(some 12), none, .r (.len (.tmp 11))⟩, ⟨(some 13), none, .r (.mv (.tmp 3))⟩, ⟨(some 14), none, .r (.len (.tmp 13))⟩, ⟨(some 15), none, .r (.mm true (.tmp 12) (.tmp 14))⟩, ⟨(some 16), none, .r (.mv (.const (.int .i64 0)))⟩]
def C45_1 : ACode := .reg [⟨(some 17), none, .r (.bin .lss (.tmp 16) (.tmp 15))⟩]
def C45_2 : ACode := .cond (.tmp 17) .skip (.exit 0)
def C45_3 : ACode := .reg [⟨(some 18), none, .r (.mv (.tmp 16))⟩, ⟨(some 8), none, .e (.asg (.tmp 18))⟩]
def C45_4 : ACode := .reg [⟨(some 19), none, .r (.mv (.tmp 2))⟩, ⟨(some 20), none, .r (.mv (.tmp 8))⟩, ⟨(some 21), none, .e (.call 67 [(.tmp 19), (.tmp 20)])⟩, ⟨(some 22), none, .r (.mv (.tmp 3))⟩, ⟨(some 23), none, .r (.mv (.tmp 8))⟩, ⟨(some 24), none, .e (.call 67 [(.tmp 22), (.tmp 23)])⟩, ⟨(some 9), none, .e (.asg (.tmp 21))⟩, ⟨(some 10), none, .e (.asg (.tmp 24))⟩]
def C45_5 : ACode := .reg [⟨(some 25), none, .r (.mv (.tmp 9))⟩, ⟨(some 26), none, .r (.mv (.tmp 10))⟩, ⟨(some 27), none, .r (.bin .neq (.tmp 25) (.tmp 26))⟩]
def C45_6 : ACode := .reg [⟨(some 28), none, .r (.mv (.tmp 0))⟩, ⟨(some 29), none, .r (.mv (.tmp 1))⟩, ⟨(some 30), none, .r (.mv (.tmp 8))⟩, ⟨(some 31), none, .r (.mv (.tmp 9))⟩, ⟨(some 32), none, .r (.mv (.tmp 10))⟩, ⟨(some 33), none, .e (.call 44 [(.tmp 28), (.tmp 29), (.tmp 30), (.tmp 31), (.tmp 32)])⟩]
def C45_7 : ACode := .seq [] C45_6 .ret
def C45_8 : ACode := .cond (.tmp 27) C45_7 .skip
def C45_9 : ACode := .seq [0, 1, 2, 3, 8, 9, 10, 15, 16, 27] C45_5 C45_8
def C45_10 : ACode := .seq [0, 1, 2, 3, 8, 9, 10, 15, 16] C45_4 C45_9
def C45_11 : ACode := .seq [0, 1, 2, 3, 8, 15, 16] C45_3 C45_10
def C45_12 : ACode := .block 1 C45_11
def C45_13 : ACode := .reg [⟨(some 34), none, .r (.bin .add (.tmp 16) (.const (.int .i64 1)))⟩, ⟨(some 16), none, .r (.mv (.tmp 34))⟩]
def C45_14 : ACode := .seq [0, 1, 2, 3, 15, 16] C45_12 C45_13
def C45_15 : ACode := .seq [0, 1, 2, 3, 15, 16] C45_2 C45_14
def C45_16 : ACode := .seq [0, 1, 2, 3, 15, 16, 17] C45_1 C45_15
def C45_17 : ACode := .loop C45_16
def C45_18 : ACode := .block 0 C45_17
def C45_19 : ACode := .seq [0, 1, 2, 3, 15, 16] C45_0 C45_18
def C45 : ACode := C45_19
def C45r : List RV := []
theorem C45ok : trF Try.prog Try.f45 = some (C45.bare, C45r) := by kernel_rfl

/-- (*mimesis/compare.list).truth -/
def C46_0 : ACode := .reg [⟨(some 8), none, .r (.mv (.tmp 0))⟩, ⟨(some 9), none, .r (.mv (.tmp 1))⟩, ⟨(some 10), none, .r (.mv (.tmp 2))⟩, ⟨(some 11), none, .e (.call 68 [(.tmp 10)])⟩, ⟨(some 12), none, .r (.mv (.tmp 3))⟩, ⟨(some 13), none, .e (.call 68 [(.tmp 12)])⟩, ⟨(some 14), none, .e (.call 44 [(.tmp 8), (.tmp 9), (.const (.int .i64 0)), (.tmp 11), (.tmp 13)])⟩]
def C46 : ACode := C46_0
def C46r : List RV := []
theorem C46ok : trF Try.prog Try.f46 = some (C46.bare, C46r) := by kernel_rfl

/-- mimesis/mimesisref40.bytes -/
def C47_0 : ACode := .reg [⟨(some 6), none, .e (.alc [.str ⟨#[]⟩, .int .i64 0, .int .u64 0, .int .u64 0])⟩]
def C47_1 : ACode := .reg [⟨(some 7), none, .e (.asg (.const (.int .i64 0)))⟩]
def C47_2 : ACode := .reg [⟨(some 10), none, .r (.mv (.tmp 7))⟩, ⟨(some 11), none, .r (.mv (.tmp 1))⟩, ⟨(some 12), none, .r (.len (.tmp 11))⟩, ⟨(some 13), none, .r (.bin .lss (.tmp 10) (.tmp 12))⟩, ⟨(some 14), none, .r (.mv (.tmp 13))⟩, ⟨(some 15), (some (14, false)), .r (.mv (.tmp 7))⟩, ⟨(some 16), (some (14, false)), .r (.mv (.tmp 2))⟩, ⟨(some 17), (some (14, false)), .r (.len (.tmp 16))⟩, ⟨(some 18), (some (14, false)), .r (.bin .lss (.tmp 15) (.tmp 17))⟩, ⟨(some 19), none, .r (.pick (.tmp 14) (.const (.bool true)) (.tmp 18))⟩]
def C47_3 : ACode := .cond (.tmp 19) .skip (.exit 0)
def C47_4 : ACode := .seq [0, 1, 2, 6, 7, 19] C47_2 C47_3
def C47_5 : ACode := .reg [⟨(some 8), none, .e (.asg (.const (.int .u64 256)))⟩]
def C47_6 : ACode := .reg [⟨(some 9), none, .e (.asg (.const (.int .u64 256)))⟩]
def C47_7 : ACode := .reg [⟨(some 22), none, .r (.mv (.tmp 7))⟩, ⟨(some 23), none, .r (.mv (.tmp 1))⟩, ⟨(some 24), none, .r (.len (.tmp 23))⟩, ⟨(some 25), none, .r (.bin .lss (.tmp 22) (.tmp 24))⟩]
def C47_8 : ACode := .reg [⟨(some 26), none, .r (.mv (.tmp 1))⟩, ⟨(some 27), none, .r (.mv (.tmp 7))⟩, ⟨(some 28), none, .r (.ixs 1 (.tmp 26) (.tmp 27))⟩, ⟨(some 29), none, .r (.ld none (.tmp 28))⟩, ⟨(some 30), none, .r (.conv .u64 (.tmp 29))⟩, ⟨(some 8), none, .e (.asg (.tmp 30))⟩]
def C47_9 : ACode := .cond (.tmp 25) C47_8 .skip
def C47_10 : ACode := .seq [0, 1, 2, 6, 7, 8, 9, 25] C47_7 C47_9
def C47_11 : ACode := .reg [⟨(some 31), none, .r (.mv (.tmp 7))⟩, ⟨(some 32), none, .r (.mv (.tmp 2))⟩, ⟨(some 33), none, .r (.len (.tmp 32))⟩, ⟨(some 34), none, .r (.bin .lss (.tmp 31) (.tmp 33))⟩]
def C47_12 : ACode := .reg [⟨(some 35), none, .r (.mv (.tmp 2))⟩, ⟨(some 36), none, .r (.mv (.tmp 7))⟩, ⟨(some 37), none, .r (.ixs 1 (.tmp 35) (.tmp 36))⟩, ⟨(some 38), none, .r (.ld none (.tmp 37))⟩, ⟨(some 39), none, .r (.conv .u64 (.tmp 38))⟩, ⟨(some 9), none, .e (.asg (.tmp 39))⟩]
def C47_13 : ACode := .cond (.tmp 34) C47_12 .skip
def C47_14 : ACode := .seq [0, 1, 2, 6, 7, 8, 9, 34] C47_11 C47_13
def C47_15 : ACode := .reg [⟨(some 40), none, .r (.mv (.tmp 8))⟩, ⟨(some 41), none, .r (.mv (.tmp 9))⟩, ⟨(some 42), none, .r (.bin .neq (.tmp 40) (.tmp 41))⟩]
def C47_16 : ACode := .reg [⟨(some 43), none, .r (.mv (.tmp 0))⟩, ⟨(some 44), none, .r (.mv (.tmp 7))⟩, ⟨(some 45), none, .r (.mv (.tmp 8))⟩, ⟨(some 46), none, .r (.mv (.tmp 9))⟩, ⟨(some 47), none, .r (.bld [.str ⟨#[]⟩, .int .i64 0, .int .u64 0, .int .u64 0] [(0, 1, (.tmp 43)), (1, 1, (.tmp 44)), (2, 1, (.tmp 45)), (3, 1, (.tmp 46))])⟩, ⟨none, none, .e (.st 4 (.tmp 6) (.tmp 47))⟩]
def C47_17 : ACode := .seq [6] C47_16 .ret
def C47_18 : ACode := .cond (.tmp 42) C47_17 .skip
def C47_19 : ACode := .seq [0, 1, 2, 6, 7, 8, 9, 42] C47_15 C47_18
def C47_20 : ACode := .seq [0, 1, 2, 6, 7, 8, 9] C47_14 C47_19
def C47_21 : ACode := .seq [0, 1, 2, 6, 7, 8, 9] C47_10 C47_20
def C47_22 : ACode := .seq [0, 1, 2, 6, 7, 8, 9] C47_6 C47_21
def C47_23 : ACode := .seq [0, 1, 2, 6, 7, 8] C47_5 C47_22
def C47_24 : ACode := .block 1 C47_23
def C47_25 : ACode := .reg [⟨(some 20), none, .r (.mv (.tmp 7))⟩, ⟨(some 21), none, .r (.bin .add (.tmp 20) (.const (.int .i64 1)))⟩, ⟨(some 7), none, .e (.asg (.tmp 21))⟩]
def C47_26 : ACode := .seq [0, 1, 2, 6, 7] C47_24 C47_25
def C47_27 : ACode := .seq [0, 1, 2, 6, 7] C47_4 C47_26
def C47_28 : ACode := .loop C47_27
def C47_29 : ACode := .block 0 C47_28
def C47_30 : ACode := .seq [0, 1, 2, 6, 7] C47_1 C47_29
def C47_31 : ACode := .reg [⟨(some 48), none, .r (.bld [.str ⟨#[]⟩, .int .i64 0, .int .u64 0, .int .u64 0] [])⟩, ⟨none, none, .e (.st 4 (.tmp 6) (.tmp 48))⟩]
def C47_32 : ACode := .seq [6] C47_31 .ret
def C47_33 : ACode := .seq [6] C47_30 C47_32
def C47_34 : ACode := .seq [0, 1, 2, 6] C47_0 C47_33
def C47 : ACode := C47_34
def C47r : List RV := [.c 6 (some 4)]
theorem C47ok : trF Try.prog Try.f47 = some (C47.bare, C47r) := by kernel_rfl

/-- mimesis/mimesisref40.truth -/
def C48_0 : ACode := .reg [⟨(some 2), none, .e (.asg (.const (.int .u64 0)))⟩]
def C48_1 : ACode := .reg [⟨(some 3), none, .r (.mv (.tmp 0))⟩]
def C48_2 : ACode := .reg [⟨(some 2), none, .e (.asg (.const (.int .u64 1)))⟩]
def C48_3 : ACode := .seq [2] C48_2 .ret
def C48_4 : ACode := .cond (.tmp 3) C48_3 .skip
def C48_5 : ACode := .seq [3] C48_1 C48_4
def C48_6 : ACode := .reg [⟨(some 2), none, .e (.asg (.const (.int .u64 0)))⟩]
def C48_7 : ACode := .seq [2] C48_6 .ret
def C48_8 : ACode := .seq [] C48_5 C48_7
def C48_9 : ACode := .seq [0] C48_0 C48_8
def C48 : ACode := C48_9
def C48r : List RV := [.t 2]
theorem C48ok : trF Try.prog Try.f48 = some (C48.bare, C48r) := by kernel_rfl

/-- mimesis/mimesisref40.unlike -/
def C49_0 : ACode := .reg [⟨(some 2), none, .e (.asg (.const (.slice none 0 0)))⟩]
def C49_1 : ACode := .reg [⟨(some 5), none, .e (.bsl 0 [] [])⟩, ⟨(some 3), none, .e (.asg (.tmp 5))⟩]
def C49_2 : ACode := .reg [⟨(some 4), none, .e (.asg (.const (.int .i64 0)))⟩]
def C49_3 : ACode := .reg [⟨(some 6), none, .r (.mv (.tmp 4))⟩, ⟨(some 7), none, .r (.mv (.tmp 0))⟩, ⟨(some 8), none, .r (.len (.tmp 7))⟩, ⟨(some 9), none, .r (.bin .lss (.tmp 6) (.tmp 8))⟩]
def C49_4 : ACode := .cond (.tmp 9) .skip (.exit 0)
def C49_5 : ACode := .seq [0, 3, 4, 9] C49_3 C49_4
def C49_6 : ACode := .dreg [⟨(some 12), none, .r (.mv (.tmp 0))⟩, ⟨(some 13), none, .r (.mv (.tmp 4))⟩, ⟨(some 14), none, .r (.ixs 4 (.tmp 12) (.tmp 13))⟩, ⟨(some 15), none, .r (.fad 2 (.tmp 14))⟩, ⟨(some 16), none, .r (.ld none (.tmp 15))⟩, ⟨(some 17), none, .r (.mv (.tmp 0))⟩, ⟨(some 18), none, .r (.mv (.tmp 4))⟩, ⟨(some 19), none, .r (.ixs 4 (.tmp 17) (.tmp 18))⟩, ⟨(some 20), none, .r (.fad 3 (.tmp 19))⟩, ⟨(some 21), none, .r (.ld none (.tmp 20))⟩, ⟨(some 22), none, .r (.bin .neq (.tmp 16) (.tmp 21))⟩] [[], [], [0, 1], [2], [3], [], [], [5, 6], [7], [8], [4, 9]] [(0, []), (1, []), (2, []), (3, []), (4, []), (5, []), (6, []), (7, []), (8, []), (9, []), (10, [])]
def C49_7 : ACode := .reg [⟨(some 23), none, .r (.mv (.tmp 3))⟩, ⟨(some 24), none, .r (.mv (.tmp 0))⟩, ⟨(some 25), none, .r (.mv (.tmp 4))⟩, ⟨(some 26), none, .r (.ixs 4 (.tmp 24) (.tmp 25))⟩, ⟨(some 27), none, .r (.ld (some 4) (.tmp 26))⟩, ⟨(some 28), none, .e (.bsl 1 [.str ⟨#[]⟩, .int .i64 0, .int .u64 0, .int .u64 0] [(0, 4, (.tmp 27))])⟩, ⟨(some 29), none, .e (.app 4 40 (.tmp 23) (.tmp 28))⟩, ⟨(some 3), none, .e (.asg (.tmp 29))⟩]
def C49_8 : ACode := .cond (.tmp 22) C49_7 .skip
def C49_9 : ACode := .seq [0, 3, 4, 22] C49_6 C49_8
def C49_10 : ACode := .block 1 C49_9
def C49_11 : ACode := .reg [⟨(some 10), none, .r (.mv (.tmp 4))⟩, ⟨(some 11), none, .r (.bin .add (.tmp 10) (.const (.int .i64 1)))⟩, ⟨(some 4), none, .e (.asg (.tmp 11))⟩]
def C49_12 : ACode := .seq [0, 3, 4] C49_10 C49_11
def C49_13 : ACode := .seq [0, 3, 4] C49_5 C49_12
def C49_14 : ACode := .loop C49_13
def C49_15 : ACode := .block 0 C49_14
def C49_16 : ACode := .seq [0, 3, 4] C49_2 C49_15
def C49_17 : ACode := .reg [⟨(some 30), none, .r (.mv (.tmp 3))⟩, ⟨(some 2), none, .e (.asg (.tmp 30))⟩]
def C49_18 : ACode := .seq [2] C49_17 .ret
def C49_19 : ACode := .seq [3] C49_16 C49_18
def C49_20 : ACode := .seq [0, 3] C49_1 C49_19
def C49_21 : ACode := .seq [0] C49_0 C49_20
def C49 : ACode := C49_21
def C49r : List RV := [.t 2]
theorem C49ok : trF Try.prog Try.f49 = some (C49.bare, C49r) := by kernel_rfl

/-- mimesis/compare.Text$1 -/
def C50_0 : ACode := .reg [⟨(some 2), none, .e (.box (.tmp 0))⟩]
def C50_1 : ACode := .dreg [⟨(some 3), none, .r (.ld none (.tmp 1))⟩, ⟨(some 4), none, .r (.fad 0 (.tmp 2))⟩, ⟨(some 5), none, .r (.ld none (.tmp 4))⟩, ⟨(some 6), none, .r (.bin .add (.tmp 5) (.const (.string ⟨#[32]⟩)))⟩, ⟨(some 7), none, .r (.fad 1 (.tmp 2))⟩, ⟨(some 8), none, .r (.ld none (.tmp 7))⟩, ⟨(some 9), none, .r (.conv .u64 (.tmp 8))⟩, ⟨(some 10), none, .e (.call 51 [(.tmp 9)])⟩, ⟨(some 11), none, .r (.bin .add (.tmp 6) (.tmp 10))⟩, ⟨(some 12), none, .r (.bin .add (.tmp 11) (.const (.string ⟨#[32]⟩)))⟩, ⟨(some 13), none, .r (.fad 2 (.tmp 2))⟩, ⟨(some 14), none, .r (.ld none (.tmp 13))⟩, ⟨(some 15), none, .e (.call 51 [(.tmp 14)])⟩, ⟨(some 16), none, .r (.bin .add (.tmp 12) (.tmp 15))⟩, ⟨(some 17), none, .r (.bin .add (.tmp 16) (.const (.string ⟨#[32]⟩)))⟩, ⟨(some 18), none, .r (.fad 3 (.tmp 2))⟩, ⟨(some 19), none, .r (.ld none (.tmp 18))⟩, ⟨(some 20), none, .e (.call 51 [(.tmp 19)])⟩, ⟨(some 21), none, .r (.bin .add (.tmp 17) (.tmp 20))⟩, ⟨(some 22), none, .r (.bin .add (.tmp 21) (.const (.string ⟨#[10]⟩)))⟩, ⟨(some 23), none, .r (.bin .add (.tmp 3) (.tmp 22))⟩, ⟨none, none, .e (.st 1 (.tmp 1) (.tmp 23))⟩] [[], [], [1], [2], [], [4], [5], [6], [3, 7], [8], [], [10], [11, 7], [9, 12], [13], [], [15], [16, 12], [14, 17], [18], [0, 19], [20, 17, 0, 1, 2, 3, 4, 5, 6, 7, 8, 9, 10, 11, 12, 13, 14, 15, 16, 17, 18, 19, 20]] [(0, []), (1, []), (2, []), (3, []), (4, []), (5, []), (6, []), (10, []), (11, []), (15, []), (16, []), (7, [0, 1, 2, 3, 10, 11, 15, 16]), (8, []), (9, []), (12, [0, 1, 2, 3, 15, 16, 8, 9]), (13, []), (14, []), (17, [0, 1, 2, 3, 8, 9, 13, 14]), (18, []), (19, []), (20, []), (21, [])]
def C50_2 : ACode := .seq [1, 2] C50_0 C50_1
def C50 : ACode := C50_2
def C50r : List RV := []
theorem C50ok : trF Try.prog Try.f50 = some (C50.bare, C50r) := by kernel_rfl

/-- mimesis/compare.digits -/
def C51_0 : ACode := .reg [⟨(some 2), none, .e (.asg (.const (.string ⟨#[]⟩)))⟩]
def C51_1 : ACode := .reg [⟨(some 4), none, .r (.mv (.tmp 0))⟩, ⟨(some 5), none, .r (.bin .rem (.tmp 4) (.const (.int .u64 10)))⟩, ⟨(some 6), none, .r (.bin .add (.const (.int .u64 48)) (.tmp 5))⟩, ⟨(some 7), none, .r (.conv .u8 (.tmp 6))⟩, ⟨(some 8), none, .e (.bsl 1 [.int .u8 0] [(0, 1, (.tmp 7))])⟩, ⟨(some 9), none, .r (.bstr (.tmp 8))⟩, ⟨(some 3), none, .e (.asg (.tmp 9))⟩]
def C51_2 : ACode := .reg [⟨(some 10), none, .r (.mv (.tmp 0))⟩, ⟨(some 11), none, .r (.bin .lss (.tmp 10) (.const (.int .u64 10)))⟩]
def C51_3 : ACode := .reg [⟨(some 12), none, .r (.mv (.tmp 3))⟩, ⟨(some 2), none, .e (.asg (.tmp 12))⟩]
def C51_4 : ACode := .seq [2] C51_3 .ret
def C51_5 : ACode := .cond (.tmp 11) C51_4 .skip
def C51_6 : ACode := .seq [0, 3, 11] C51_2 C51_5
def C51_7 : ACode := .reg [⟨(some 13), none, .r (.mv (.tmp 0))⟩, ⟨(some 14), none, .r (.bin .quo (.tmp 13) (.const (.int .u64 10)))⟩, ⟨(some 15), none, .e (.call 51 [(.tmp 14)])⟩, ⟨(some 16), none, .r (.mv (.tmp 3))⟩, ⟨(some 17), none, .r (.bin .add (.tmp 15) (.tmp 16))⟩, ⟨(some 2), none, .e (.asg (.tmp 17))⟩]
def C51_8 : ACode := .seq [2] C51_7 .ret
def C51_9 : ACode := .seq [0, 3] C51_6 C51_8
def C51_10 : ACode := .seq [0, 3] C51_1 C51_9
def C51_11 : ACode := .seq [0] C51_0 C51_10
def C51 : ACode := C51_11
def C51r : List RV := [.t 2]
theorem C51ok : trF Try.prog Try.f51 = some (C51.bare, C51r) := by kernel_rfl

/-- mimesis/mimesisref05.Digits -/
def C52_0 : ACode := .reg [⟨(some 2), none, .e (.asg (.const (.string ⟨#[]⟩)))⟩]
def C52_1 : ACode := .reg [⟨(some 3), none, .e (.asg (.const (.string ⟨#[]⟩)))⟩]
def C52_2 : ACode := .reg [⟨(some 4), none, .e (.asg (.const (.int .i64 0)))⟩]
def C52_3 : ACode := .reg [⟨(some 6), none, .r (.mv (.tmp 4))⟩, ⟨(some 7), none, .r (.bin .lss (.tmp 6) (.const (.int .i64 20)))⟩]
def C52_4 : ACode := .cond (.tmp 7) .skip (.exit 0)
def C52_5 : ACode := .seq [0, 3, 4, 7] C52_3 C52_4
def C52_6 : ACode := .reg [⟨(some 10), none, .r (.mv (.tmp 0))⟩, ⟨(some 11), none, .r (.bin .gtr (.tmp 10) (.const (.int .u64 0)))⟩, ⟨(some 12), none, .r (.mv (.tmp 11))⟩, ⟨(some 13), (some (12, false)), .r (.mv (.tmp 4))⟩, ⟨(some 14), (some (12, false)), .r (.bin .eql (.tmp 13) (.const (.int .i64 0)))⟩, ⟨(some 15), none, .r (.pick (.tmp 12) (.const (.bool true)) (.tmp 14))⟩]
def C52_7 : ACode := .reg [⟨(some 16), none, .r (.mv (.tmp 0))⟩, ⟨(some 17), none, .r (.bin .rem (.tmp 16) (.const (.int .u64 10)))⟩, ⟨(some 18), none, .r (.conv .i64 (.tmp 17))⟩, ⟨(some 5), none, .e (.asg (.tmp 18))⟩]
def C52_8 : ACode := .reg [⟨(some 19), none, .r (.mv (.tmp 5))⟩, ⟨(some 20), none, .r (.mv (.tmp 5))⟩, ⟨(some 21), none, .r (.bin .add (.tmp 20) (.const (.int .i64 1)))⟩, ⟨(some 22), none, .r (.slb (.const (.string ⟨#[48, 49, 50, 51, 52, 53, 54, 55, 56, 57]⟩)) (some (.tmp 19)) (some (.tmp 21)))⟩, ⟨(some 23), none, .r (.mv (.tmp 3))⟩, ⟨(some 24), none, .r (.bin .add (.tmp 22) (.tmp 23))⟩, ⟨(some 3), none, .e (.asg (.tmp 24))⟩]
def C52_9 : ACode := .seq [0, 3, 4, 5] C52_7 C52_8
def C52_10 : ACode := .cond (.tmp 15) C52_9 .skip
def C52_11 : ACode := .seq [0, 3, 4, 15] C52_6 C52_10
def C52_12 : ACode := .reg [⟨(some 25), none, .r (.mv (.tmp 0))⟩, ⟨(some 26), none, .r (.bin .quo (.tmp 25) (.const (.int .u64 10)))⟩, ⟨(some 0), none, .e (.asg (.tmp 26))⟩]
def C52_13 : ACode := .seq [0, 3, 4] C52_11 C52_12
def C52_14 : ACode := .block 1 C52_13
def C52_15 : ACode := .reg [⟨(some 8), none, .r (.mv (.tmp 4))⟩, ⟨(some 9), none, .r (.bin .add (.tmp 8) (.const (.int .i64 1)))⟩, ⟨(some 4), none, .e (.asg (.tmp 9))⟩]
def C52_16 : ACode := .seq [0, 3, 4] C52_14 C52_15
def C52_17 : ACode := .seq [0, 3, 4] C52_5 C52_16
def C52_18 : ACode := .loop C52_17
def C52_19 : ACode := .block 0 C52_18
def C52_20 : ACode := .seq [0, 3, 4] C52_2 C52_19
def C52_21 : ACode := .reg [⟨(some 27), none, .r (.mv (.tmp 3))⟩, ⟨(some 2), none, .e (.asg (.tmp 27))⟩]
def C52_22 : ACode := .seq [2] C52_21 .ret
def C52_23 : ACode := .seq [3] C52_20 C52_22
def C52_24 : ACode := .seq [0, 3] C52_1 C52_23
def C52_25 : ACode := .seq [0] C52_0 C52_24
def C52 : ACode := C52_25
def C52r : List RV := [.t 2]
theorem C52ok : trF Try.prog Try.f52 = some (C52.bare, C52r) := by kernel_rfl

/-- mimesis/compare.at -/
def C67_0 : ACode := .reg [⟨(some 4), none, .e (.asg (.const (.int .u64 0)))⟩]
def C67_1 : ACode := .reg [⟨(some 5), none, .r (.mv (.tmp 1))⟩, ⟨(some 6), none, .r (.mv (.tmp 0))⟩, ⟨(some 7), none, .r (.len (.tmp 6))⟩, ⟨(some 8), none, .r (.bin .geq (.tmp 5) (.tmp 7))⟩]
def C67_2 : ACode := .reg [⟨(some 4), none, .e (.asg (.const (.int .u64 256)))⟩]
def C67_3 : ACode := .seq [4] C67_2 .ret
def C67_4 : ACode := .cond (.tmp 8) C67_3 .skip
def C67_5 : ACode := .seq [0, 1, 8] C67_1 C67_4
def C67_6 : ACode := .reg [⟨(some 9), none, .r (.mv (.tmp 0))⟩, ⟨(some 10), none, .r (.mv (.tmp 1))⟩, ⟨(some 11), none, .r (.ixs 1 (.tmp 9) (.tmp 10))⟩, ⟨(some 12), none, .r (.ld none (.tmp 11))⟩, ⟨(some 13), none, .r (.conv .u64 (.tmp 12))⟩, ⟨(some 4), none, .e (.asg (.tmp 13))⟩]
def C67_7 : ACode := .seq [4] C67_6 .ret
def C67_8 : ACode := .seq [0, 1] C67_5 C67_7
def C67_9 : ACode := .seq [0, 1] C67_0 C67_8
def C67 : ACode := C67_9
def C67r : List RV := [.t 4]
theorem C67ok : trF Try.prog Try.f67 = some (C67.bare, C67r) := by kernel_rfl

/-- mimesis/compare.one -/
def C68_0 : ACode := .reg [⟨(some 2), none, .e (.asg (.const (.int .u64 0)))⟩]
def C68_1 : ACode := .reg [⟨(some 3), none, .r (.mv (.tmp 0))⟩]
def C68_2 : ACode := .reg [⟨(some 2), none, .e (.asg (.const (.int .u64 1)))⟩]
def C68_3 : ACode := .seq [2] C68_2 .ret
def C68_4 : ACode := .cond (.tmp 3) C68_3 .skip
def C68_5 : ACode := .seq [3] C68_1 C68_4
def C68_6 : ACode := .reg [⟨(some 2), none, .e (.asg (.const (.int .u64 0)))⟩]
def C68_7 : ACode := .seq [2] C68_6 .ret
def C68_8 : ACode := .seq [] C68_5 C68_7
def C68_9 : ACode := .seq [0] C68_0 C68_8
def C68 : ACode := C68_9
def C68r : List RV := [.t 2]
theorem C68ok : trF Try.prog Try.f68 = some (C68.bare, C68r) := by kernel_rfl
end Go.Ab
